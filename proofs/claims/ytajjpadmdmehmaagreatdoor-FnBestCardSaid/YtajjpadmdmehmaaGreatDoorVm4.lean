import Derived.Test.YtajjpadmdmehmaaGreatDoorVm3
import Derived.IntWalk
import Derived.ChangeShapes
import Derived.ChangeOld
import Derived.Carry
import Derived.WideShapes
import Derived.ProofKit
import Derived.Handed
import Derived.LaidLaws
import Derived.LaidHandle
import Derived.Shelf.Vars
import Derived.OpenShut
import Derived.ChangeArms
import Derived.LaidMore
set_option linter.defProp false
set_option linter.unusedVariables false
set_option linter.unusedSimpArgs false
namespace Go.Vm
open Go
open Go.IntKind (i64)
def iterM{σ τ:Type}(b:σ->Option (σ⊕τ)):Nat->σ->Option τ
 |0,_=>none
 |n+1,s=>match b s with
  |some (.inl s')=>iterM b n s'
  |some (.inr t)=>some t
  |none=>none
def ace{σ τ:Type}{b:σ->Option (σ⊕τ)}:∀{n k:Nat} {s:σ} {t:τ},iterM b n s=some t->n<=k->iterM b k s=some t
 |0,_,_,_,h,_=>by simp[iterM] at h
 |n+1,0,_,_,_,hk=>by omega
 |n+1,k+1,s,t,h,hk=>by
  simp only[iterM] at h|-;cases hb:b s with
  |none=>simp[hb] at h
  |some q=>
   rw[hb] at h;cases q with
   |inl s'=>exact ace h ak
   |inr t'=>exact h
noncomputable def dM{σ τ:Type}(b:σ->Option (σ⊕τ))(s:σ):Option τ:=lim λn=>iterM b n s
def ac6{σ τ:Type}{b:σ->Option (σ⊕τ)}{s:σ}{t:τ}{n:Nat}(h:iterM b n s=some t):dM b s=some t:=by
 refine AO h λm y hy=> ?_
 have h1:=ace h (Nat.le_max_left n m);rw[ace hy (Nat.le_max_right n m)] at h1;exact Option.some.inj h1
def acf{σ τ:Type}{b:σ->Option (σ⊕τ)}{s:σ}{t:τ}(h:dM b s=some t):∃n,iterM b n s=some t:=XV h
def cu{σ τ:Type}{b:σ->Option (σ⊕τ)}{s s':σ}(h:b s=some (.inl s')):dM b s=dM b s':=by
 cases hl:dM b s' with
 |some t=>obtain⟨n,hn⟩:=acf hl;exact ac6 (n:=n+1) (by simp only[iterM,h];exact hn)
 |none=>
  cases hs:dM b s with
  |none=>rfl
  |some t=>
   obtain⟨n,hn⟩:=acf hs;cases n with
   |zero=>simp[iterM] at hn
   |succ n=>simp only[iterM,h] at hn;rw[ac6 hn] at hl;cases hl
def aY{σ τ:Type}{b:σ->Option (σ⊕τ)}{s:σ}{t:τ}(h:b s=some (.inr t)):dM b s=some t:=
 ac6 (n:=1) (by simp only[iterM,h])
def iY{σ τ:Type}{b:σ->Option (σ⊕τ)}{t:τ}(st:Nat->σ)(n:Nat)(h:∀i,i<n->b (st i)=some (.inl (st (i+1))))(he:b (st n)=some (.inr t)):∀i,i<=n->dM b (st i)=some t:=by
 intro i hi;obtain⟨d,rfl⟩:∃d,n=i+d:=⟨n - i,ak⟩
 induction d generalizing i with
 |zero=>exact aY he
 |succ d ih=>rw[cu (h i ak),ih (i+1) (λj hj=>h j ak) (by rw[show i+1+d=i+(d+1) by omega];exact he) ak]
def asN{σ τ:Type}{b:σ->Option (σ⊕τ)}{D:St->Option (Ex×St)}{tm:σ->St}{tx:τ->Ex×St}
  (h:∀s r,b s=some r->D (tm s)=some (match r with| .inl s'=>(.normal,tm s')| .inr t=>tx t)) (hx:∀t,(tx t).1≠.normal) {s:σ} {t:τ} (hl:dM b s=some t):WO D (tm s)=some (tx t):=by
 obtain⟨n,hn⟩:=acf hl;induction n generalizing s with
 |zero=>simp[iterM] at hn
 |succ n ih=>
  simp only[iterM] at hn;cases hb:b s with
  |none=>simp[hb] at hn
  |some q=>
   rw[hb] at hn;have hd:=h s q hb;cases q with
   |inl s'=>have hl':=ih (ac6 hn) hn;obtain⟨k,hk⟩:=ab5 hl';refine ac4 (n:=k+1) ?_;simp only[iter,hd];exact hk
   |inr t'=>
    simp only[je] at hn;subst hn;refine ac4 (n:=1) ?_;simp only[iter,hd];have:=hx t';cases ht:tx t' with
    |mk e S=>cases e with
     |normal=>rw[ht] at this;exact absurd rfl this
     |exit id=>rfl
     |ret=>rfl
def aJG(X:Ctx)(f n:Nat)(c:Code)(P:St->ab6 (Ex×St)):Prop:=lid c=n/\∀S r,(P S).val=some r->WO (den X (call X) f c) S=some r
def findLoop(n:Nat):Code->Option Code
 | .seq a b=>match findLoop n a with
  |some c=>some c
  |none=>findLoop n b
 | .cond _ a b=>match findLoop n a with
  |some c=>some c
  |none=>findLoop n b
 | .block _ c=>findLoop n c
 | .loop c=>bif Nat.beq (lid c) n then some c else findLoop n c
 |_=>none
def ZQ(P:Program)(f n:Nat):Code:=match findLoop n (codeOf P f) with
 |some c=>c
 |none=> .skip
def axu{X:Ctx}{K:Vg}{L:WY}{f:Nat}{args:List V}{cells:List Cell}{ρ:Type}{o:Option ρ}{enc:ρ->List Row×List Cell}(hp:X.Zw f=none)(hK:KLe K.to (call X))(hL:LOk X (call X) f L.to (loops (codeOf X.P f)))
  (h:bodyC X K L f args cells (λa b=>some (a,b))=o.bind λr=>some (enc r)) {r:ρ} (hr:o=some r):call X f args cells=some (enc r):=by
 refine axt hp hK hL ?_;rw[h,hr];rfl
def axv{X:Ctx}{K:Vg}{L:WY}{f:Nat}{c:Code}{σ τ:Type}{b:σ->Option (σ⊕τ)}{tm:σ->St}{tx:τ->Ex×St}(hK:KLe K.to (call X))(hL:LOk X (call X) f L.to (loops c))
  (h:∀s,ab8 X K L f c (tm s) (λa b=>some (a,b))=(b s).bind λr=>some (match r with| .inl s'=>(.normal,tm s')| .inr t=>tx t)) (hx:∀t,(tx t).1≠.normal) {s:σ} {t:τ} (hl:dM b s=some t):
  WO (den X (call X) f c) (tm s)=some (tx t):=by
 refine asN (λs r hr=> ?_) hx hl;refine aBl hK hL ?_;rw[h s,hr];rfl
def axw{α β:Type}(c:Bool)(a b:Option α)(f:α->Option β):(bif c then a else b).bind f=bif c then a.bind f else b.bind f:=by cases c<;>rfl
def avC{α β γ:Type}(o:Option α)(g:α->Option β)(f:β->Option γ):(o.bind g).bind f=o.bind λx=>(g x).bind f:=by cases o<;>rfl
def ah{α β:Type}(a:α)(f:α->Option β):(some a).bind f=f a:=rfl
def avD{α β:Type}(f:α->Option β):(none:Option α).bind f=none:=rfl
def avE{α β:Type}(o:Option α)(n:Option β)(f:α->Option β):Option β:=match o with
 |none=>n
 |some x=>f x
def letE{α β:Type}(x:α)(f:α->Option β):Option β:=f x
def alI{α β γ:Type}(o:Option α)(n:Option β)(f:α->Option β)(g:β->Option γ):(avE o n f).bind g=avE o (n.bind g) λx=>(f x).bind g:=by cases o<;>rfl
def alJ{α β γ δ:Type}(r:α⊕β)(f:α->Option γ)(g:β->Option γ)(k:γ->Option δ):(pz r f g).bind k=pz r (λx=>(f x).bind k) (λy=>(g y).bind k):=by cases r<;>rfl
def alK{α β γ:Type}(x:α)(f:α->Option β)(g:β->Option γ):(letE x f).bind g=letE x λy=>(f y).bind g:=rfl
def aJG.at{X:Ctx}{f n:Nat}{c:Code}{P:St->ab6 (Ex×St)}{L:WY}(h:aJG X f n c P)(hL:∀S,L n S=P S):∀S r,L.to (lid c) S=some r->WO (den X (call X) f c) S=some r:=by intro S r hr;rw[h.1,WY.to,hL] at hr;exact h.2 S r hr
end Go.Vm
namespace Go.Vm
open Go
open Go.IntKind (i64)
set_option linter.unusedVariables false
structure Pt(β:Type) where
 α:Type
 enc:α->β
 dec:β->Option α
 ok:∀b x,dec b=some x->b=enc x
noncomputable section
def pS:Pt V:=⟨List UInt8,λs=> .d (.str s),λv=>match v with| .d (.str s)=>some s|_=>none,by intro b x h;split at h<;>simp_all⟩
def pK(k:IntKind):Pt V:=⟨Int,λn=> .d (.int k n),λv=>match v with| .d (.int k' n)=>(match decEq k' k with| .isTrue _=>some n| .isFalse _=>none)|_=>none,by
 intro b x h;split at h
 ·split at h<;>simp_all
 ·cases h⟩
def pI:Pt V:=pK .i64
def pB:Pt V:=⟨Bool,λs=> .d (.bool s),λv=>match v with| .d (.bool s)=>some s|_=>none,by intro b x h;split at h<;>simp_all⟩
def pL(o:Bool)(s:Nat):Pt V:=⟨List Row,λr=> .d (.sl o s r),λv=>match v with| .d (.sl o' s' r)=>bif(o==o') && Nat.beq s s' then some r else none|_=>none,by
 intro b x h;split at h
 ·rename_i o' s' r;cases ho:(o==o')<;>cases hs:Nat.beq s s'<;>simp only[ho,hs,Bool.and_true,Bool.and_false,Bool.false_and,aK,bn,je] at h
  all_goals first|cases h;done|skip
  cases h;rw[beq_iff_eq] at ho;rw[Hy hs,ho]
 ·cases h⟩
def pZ{β:Type}(v:β)(t:β->Bool)(h:∀b,t b=true->b=v):Pt β:=⟨Unit,λ_=>v,λb=>bif t b then some () else none,by
 intro b x e;cases ht:t b with
 |true=>exact h b ht
 |false=>rw[ht] at e;cases e⟩
def acg(s:Nat):Pt V:=pZ (.nil s) (λv=>match v with| .nil t=>Nat.beq s t|_=>false) (by
 intro b h;split at h
 ·rw[Hy h]
 ·cases h)
def axx{a b:Bool}(h:(a && b)=true):a=true/\b=true:=by simpa using h
def pO(r n:Nat):Pt V:=pZ (.own r n) (λv=>match v with| .own a b=>Nat.beq r a && Nat.beq n b|_=>false) (by
 intro b h;split at h
 ·obtain⟨h1,h2⟩:=axx h;rw[Hy h1,Hy h2]
 ·cases h)
def pP(r n:Nat):Pt V:=pZ (.ptr r n) (λv=>match v with| .ptr a b=>Nat.beq r a && Nat.beq n b|_=>false) (by
 intro b h;split at h
 ·obtain⟨h1,h2⟩:=axx h;rw[Hy h1,Hy h2]
 ·cases h)
def pR(o:Nat):Pt V:=⟨Row,λr=> .uN r o,λv=>match v with| .uN r c=>bif Nat.beq o c then some r else none|_=>none,by
 intro b x h;split at h
 ·rename_i r c;cases ht:Nat.beq o c with
  |false=>rw[ht] at h;cases h
  |true=>rw[ht] at h;cases h;rw[Hy ht]
 ·cases h⟩
def aJH{β:Type}(p:Pt β)(q:Pt (List β)):Pt (List β):=⟨p.α×q.α,λx=>p.enc x.1::q.enc x.2,λl=>match l with|a::b=>(match p.dec a with|some x=>(match q.dec b with|some y=>some (x,y)|none=>none)|none=>none)|[]=>none,by
 intro b x h;split at h
 ·split at h
  ·rename_i hp;split at h
   ·rename_i hq;cases h;rw[p.ok _ _ hp,q.ok _ _ hq]
   ·cases h
  ·cases h
 ·cases h⟩
def aYQ{β:Type}:Pt (List β):=pZ [] (λl=>match l with|[]=>true|_=>false) (by intro b h;split at h<;>simp_all)
def pl{β:Type}(l:List (Pt β)):Pt (List β):=List.rec aYQ (λp _ q=>aJH p q) l
def anh(f:Nat)(a b:List (Pt V)):Pt V:=⟨(pl a).α×(pl b).α,λx=> .clo f ((pl a).enc x.1) ((pl b).enc x.2),λv=>match v with| .clo g x y=>bif Nat.beq f g then(match(pl a).dec x with|some x=>(match(pl b).dec y with|some y=>some (x,y)|none=>none)|none=>none) else none|_=>none,by
 intro v x h;split at h
 ·rename_i g u w;cases ht:Nat.beq f g with
  |false=>rw[ht] at h;cases h
  |true=>
   rw[ht,aK] at h;split at h
   ·rename_i hp;split at h
    ·rename_i hq;cases h;rw[(pl a).ok _ _ hp,(pl b).ok _ _ hq,Hy ht]
    ·cases h
   ·cases h
 ·cases h⟩
def iV(a:List (Pt V)):Pt V:=⟨(pl a).α,λx=> .agg ((pl a).enc x),λv=>match v with| .agg x=>(pl a).dec x|_=>none,by
 intro v x h;split at h
 ·rw[(pl a).ok _ _ h]
 ·cases h⟩
def cB(t:TypeId)(a:List (Pt V)):Pt Cell:=⟨(pl a).α,λx=> .box t ((pl a).enc x),λv=>match v with| .box u x=>bif Nat.beq t u then(pl a).dec x else none|_=>none,by
 intro v x h;split at h
 ·rename_i u y;cases ht:Nat.beq t u with
  |false=>rw[ht] at h;cases h
  |true=>rw[ht,aK] at h;rw[(pl a).ok _ _ h,Hy ht]
 ·cases h⟩
def cA(z l:Bool)(n s:Nat):Pt Cell:=⟨List Row,λr=> .arr z l n s r,λv=>match v with| .arr z' l' n' s' r=>bif(z==z') &&((l==l') &&(Nat.beq n n' && Nat.beq s s')) then some r else none|_=>none,by
 intro b x h;split at h
 ·rename_i z' l' n' s' r;cases ht:((z==z') &&((l==l') &&(Nat.beq n n' && Nat.beq s s'))) with
  |false=>rw[ht] at h;cases h
  |true=>rw[ht] at h;obtain⟨h1,h2⟩:=axx ht;obtain⟨h2,h3⟩:=axx h2;obtain⟨h3,h4⟩:=axx h3;cases h;rw[beq_iff_eq] at h1 h2;rw[h1,h2,Hy h3,Hy h4]
 ·cases h⟩
def pKp(p:Pt V):Pt V:=⟨p.α,λx=> .Em (p.enc x),λv=>match v with| .Em y=>p.dec y|_=>none,by
 intro v x h;split at h
 ·rw[p.ok _ _ h]
 ·cases h⟩
def bH{β:Type}(n:Nat)(p:Pt β):Pt (Nat×β):=⟨p.α,λx=>(n,p.enc x),λy=>bif Nat.beq n y.1 then p.dec y.2 else none,by
 intro y x h;cases ht:Nat.beq n y.1 with
 |false=>rw[ht] at h;cases h
 |true=>rw[ht,aK] at h;rw[<-p.ok _ _ h,Hy ht]⟩
def Ef(t:List (Pt (Nat×V)))(m:List (Pt (Nat×Cell))):Pt St:=⟨(pl t).α×(pl m).α,λx=>⟨(pl t).enc x.1,(pl m).enc x.2⟩,λS=>match(pl t).dec S.tm with|some x=>(match(pl m).dec S.mem with|some y=>some (x,y)|none=>none)|none=>none,by
 intro S x h;split at h
 ·rename_i hp;split at h
  ·rename_i hq;cases h;cases S;have e1:=(pl t).ok _ _ hp;have e2:=(pl m).ok _ _ hq;simp only at e1 e2;rw[e1,e2]
  ·cases h
 ·cases h⟩
def pOr{β:Type}(p q:Pt β):Pt β:=⟨p.α⊕q.α,λx=>match x with| .inl x=>p.enc x| .inr y=>q.enc y,λb=>match p.dec b with|some x=>some (.inl x)|none=>(match q.dec b with|some y=>some (.inr y)|none=>none),by
 intro b x h;split at h
 ·rename_i hp;cases h;exact p.ok _ _ hp
 ·split at h
  ·rename_i hq;cases h;exact q.ok _ _ hq
  ·cases h⟩
structure dO where
 f:Nat
 p:Pt (List V)
 q:Pt (List Cell)
 ρ:Type
 enc:ρ->List Row×List Cell
@[reducible] def sg(f:Nat)(a:List (Pt V))(c:List (Pt Cell)){ρ:Type}(enc:ρ->List Row×List Cell):dO:=⟨f,pl a,pl c,ρ,enc⟩
abbrev dO.α(S:dO):Type:=S.p.α×S.q.α
def dO.ok(S:dO)(X:Ctx)(o:S.α->Option S.ρ):Prop:=∀x r,o x=some r->call X S.f (S.p.enc x.1) (S.q.enc x.2)=some (S.enc r)
structure FE(X:Ctx) where
 f:Nat
 P:List V->List Cell->Option (Res (List Row×List Cell))
 ok:∀a c q r,P a c=some q->q.val=some r->call X f a c=some r
def fe{X:Ctx}{S:dO}{o:S.α->Option S.ρ}(h:S.ok X o):FE X:=⟨S.f,λa c=>match S.p.dec a with|some x=>(match S.q.dec c with|some y=>some ⟨S.ρ,o (x,y),S.enc⟩|none=>none)|none=>none,by
 intro a c q r hq hr;split at hq
 ·rename_i x hx;split at hq
  ·rename_i y hy;cases hq;obtain⟨z,hz,rfl⟩:=Res.ah9 hr;rw[S.p.ok _ _ hx,S.q.ok _ _ hy];exact h (x,y) z hz
  ·cases hq
 ·cases hq⟩
def kt{X:Ctx}(l:List (FE X)):Vg:=List.rec (λ_ _ _=> .none) (λe _ K g a c=>bif Nat.beq g e.f then(match e.P a c with|some r=>r|none=>K g a c) else K g a c) l
def aEC{X:Ctx}(l:List (FE X)):KLe (kt l).to (call X):=by
 induction l with
 |nil=>exact λ_ _ _ _ h=>by simp[Vg.to,kt,Res.none,Res.val] at h
 |cons e l ih=>
  intro g a c r hr;have hr':(bif Nat.beq g e.f then(match e.P a c with|some r=>r|none=>kt l g a c) else kt l g a c).val=some r:=hr
  by_cases h:g=e.f
  ·subst h;simp only[Nat.beq_refl,aK] at hr';split at hr'
   ·rename_i q hq;exact e.ok a c q r hq hr'
   ·exact ih _ a c r hr'
  ·rw[wM h] at hr';exact ih g a c r hr'
structure LE(X:Ctx)(f:Nat) where
 n:Nat
 c:Code
 P:St->Option (ab6 (Ex×St))
 hn:lid c=n
 ok:∀S q r,P S=some q->q.val=some r->WO (den X (call X) f c) S=some r
def lt{X:Ctx}{f:Nat}(l:List (LE X f)):WY:=List.rec (λ_ _=> .none) (λe _ L n S=>bif Nat.beq n e.n then(match e.P S with|some r=>r|none=> .none) else L n S) l
def apart(l:List Nat):Bool:=match l with
 |[]=>true
 |x::l=>l.all (λy=> !(Nat.beq x y)) && apart l
def axy{X:Ctx}{f:Nat}:∀(l:List (LE X f)),apart (l.map LE.n)=true->∀e,e∈l->∀S r,(lt l e.n S).val=some r->WO (den X (call X) f e.c) S=some r
 |[],_,e,h,_,_,_=>by cases h
 |d::l,hd,e,he,S,r,hr=>by
  have hr':(bif Nat.beq e.n d.n then(match d.P S with|some r=>r|none=> .none) else lt l e.n S).val=some r:=hr;simp only[RQ,apart,MS] at hd;rcases List.mem_cons.1 he with rfl|he
  ·simp only[Nat.beq_refl,aK] at hr';split at hr'
   ·rename_i q hq;exact e.ok S q r hq hr'
   ·simp[ab6.none,ab6.val] at hr'
  ·have h1:=List.all_eq_true.1 hd.1 e.n (List.mem_map_of_mem he);have h2:e.n≠d.n:=by intro h;rw[h,Nat.beq_refl] at h1;cases h1
   rw[wM h2] at hr';exact axy l hd.2 e he S r hr'
def aED{X:Ctx}{f:Nat}{l:List (LE X f)}{cs:List Code}(h:cs=l.map LE.c)(hd:apart (l.map LE.n)=true):LOk X (call X) f (lt l).to cs:=by intro c hc S r hr;rw[h] at hc;obtain⟨e,he,rfl⟩:=List.mem_map.1 hc;rw[e.hn] at hr;exact axy l hd e he S r hr
def fnS{X:Ctx}{S:dO}{o:S.α->Option S.ρ}(C:∀{R:Type},S.α->(S.ρ->Option R)->Option R)(K:List (FE X))(L:List (LE X S.f))(hn:∀{R:Type} x (k:S.ρ->Option R),C x k=(C x some).bind k)
  (hE:∀{R:Type} x (k:List Row->List Cell->Option R),bodyC X (kt K) (lt L) S.f (S.p.enc x.1) (S.q.enc x.2) k=C x (λr=>k (S.enc r).1 (S.enc r).2):=by intros;kernel_rfl)
  (hL:loops (codeOf X.P S.f)=L.map LE.c:=by kernel_rfl) (hd:apart (L.map LE.n)=true:=by kernel_rfl) (hp:X.Zw S.f=none:=by kernel_rfl) (ho:∀x,o x=C x some:=by intros;rfl):S.ok X o:=by
 intro x r h;rw[ho] at h;exact axu hp (aEC K) (aED hL hd) (by rw[hE,hn]) h
def dO.lim{X:Ctx}{S:dO}{o:Nat->S.α->Option S.ρ}(h:∀n,S.ok X (o n)):S.ok X λx=>Vm.lim λn=>o n x:=by intro x r hr;obtain⟨n,hn⟩:=XV hr;exact h n x r hn
def dO.zero{X:Ctx}{S:dO}:S.ok X λ_=>none:=λ_ _ h=>by cases h
def dO.AO{X:Ctx}{S:dO}{o:Nat->S.α->Option S.ρ}(h:∀n,S.ok X (o n))(hi:∀a b,S.enc a=S.enc b->a=b){x:S.α}{n:Nat}{r:S.ρ}(hr:o n x=some r):(Vm.lim λn=>o n x)=some r:=by
 refine Vm.AO hr λm y hy=> ?_
 have h1:=h n x r hr;have h2:=h m x y hy;rw[h1] at h2;exact(hi _ _ (Option.some.inj h2)).symm
def dO.Zw{X:Ctx}{S:dO}{o:S.α->Option S.ρ}{p:List V->List Cell->Option (List Row×List Cell)}(h:∀x,p (S.p.enc x.1) (S.q.enc x.2)=(o x).map S.enc:=by intros;rfl)(hp:X.Zw S.f=some p:=by kernel_rfl):S.ok X o:=by intro x r hr;exact am7 hp (by rw[h,hr];rfl)
def le{X:Ctx}{f:Nat}(n:Nat)(p:Pt St){σ:Type}(v:p.α->σ)(g:p.α->σ->p.α)(A:p.α->Alt (Ex×St))(C:∀{R:Type} (x:p.α),σ->(σ->Option R)->((A x).T->Option R)->Option R)(K:List (FE X))(L:List (LE X f))
  (hn:∀{R:Type} x s (kn:σ->Option R) (ke:(A x).T->Option R),C x s kn ke=(C x s (λs=>some (Sum.inl s)) (λt=>some (Sum.inr t))).bind λr=>match r with| .inl s=>kn s| .inr t=>ke t)
  (hE:∀{R:Type} x s (k:Ex->St->Option R),ab8 X (kt K) (lt L) f (ZQ X.P f n) (p.enc (g x s)) k=C x s (λs=>k .normal (p.enc (g x s))) (λt=>(A x).go t λr=>k r.1 r.2):=by intros;kernel_rfl)
  (hx:∀x t,((A x).enc t).1≠.normal:=by first|(intro x t h;cases h;done)|(intro x t;rcases t with t|t<;>first|(intro h;cases h;done)|(rcases t with t|t<;>first|(intro h;cases h;done)|(rcases t with t|t<;>(intro h;cases h)))))
  (hv:∀x,g x (v x)=x:=by first|(intros;rfl)|(rintro(_|_)<;>rfl)|(rintro(_|_|_)<;>rfl)|(rintro(_|_|_|_)<;>rfl))
  (hL:loops (ZQ X.P f n)=L.map LE.c:=by kernel_rfl) (hd:apart (L.map LE.n)=true:=by kernel_rfl) (hi:lid (ZQ X.P f n)=n:=by kernel_rfl):LE X f:=
 ⟨n,ZQ X.P f n,λS=>match p.dec S with|some x=>some ⟨A x,dM (λs=>C x s (λs=>some (Sum.inl s)) (λt=>some (Sum.inr t))) (v x)⟩|none=>none,hi,by
  intro S q r hq hr;split at hq
  ·rename_i x hp;cases hq;obtain⟨t,ht,rfl⟩:=ab6.ah9 hr;rw[p.ok _ _ hp];have h:=axv (X:=X) (f:=f) (c:=ZQ X.P f n) (K:=kt K) (L:=lt L) (tm:=λs=>p.enc (g x s)) (tx:=(A x).enc) (aEC K) (aED hL hd) (λs=>by
    rw[hE,hn];congr 1;funext r;cases r
    ·rfl
    ·exact Alt.go_eq _ _ _) (hx x) ht
   rwa [hv] at h
  ·cases hq⟩
def nb:(∀(α β:Type) (c:Bool) (a b:Option α) (f:α->Option β),(bif c then a else b).bind f=bif c then a.bind f else b.bind f)/\(∀(α β γ:Type) (o:Option α) (g:α->Option β) (f:β->Option γ),(o.bind g).bind f=o.bind λx=>(g x).bind f)/\
  (∀(α β:Type) (a:α) (f:α->Option β),(some a).bind f=f a)/\(∀(α β:Type) (f:α->Option β),(none:Option α).bind f=none)/\
  (∀(α β γ:Type) (o:Option α) (n:Option β) (f:α->Option β) (g:β->Option γ),(avE o n f).bind g=avE o (n.bind g) λx=>(f x).bind g)/\
  (∀(α β γ δ:Type) (r:α⊕β) (f:α->Option γ) (g:β->Option γ) (k:γ->Option δ),(pz r f g).bind k=pz r (λx=>(f x).bind k) (λy=>(g y).bind k))/\
  (∀(α β γ:Type) (x:α) (f:α->Option β) (g:β->Option γ),(letE x f).bind g=letE x λy=>(f y).bind g):=
 ⟨λ_ _=>axw,λ_ _ _=>avC,λ_ _=>ah,λ_ _=>avD,λ_ _ _=>alI,λ_ _ _ _=>alJ,λ_ _ _=>alK⟩
section
variable {α β ρ R:Type} {k:ρ->Option R}
def fD{c:Bool}{x y:Option R}{u v:Option ρ}(h1:x=u.bind k)(h2:y=v.bind k):(bif c then x else y)=(bif c then u else v).bind k:=by cases c<;>assumption
def IV{o:Option α}{f:α->Option R}{g:α->Option ρ}(h:∀a,f a=(g a).bind k):o.bind f=(o.bind g).bind k:=by cases o with
 |none=>rfl
 |some a=>exact h a
def IW{o:Option α}{n:Option R}{m:Option ρ}{f:α->Option R}{g:α->Option ρ}(h1:n=m.bind k)(h:∀a,f a=(g a).bind k):avE o n f=(avE o m g).bind k:=by rw[alI,h1,funext h]
def IX{o:α⊕β}{f:α->Option R}{g:β->Option R}{f':α->Option ρ}{g':β->Option ρ}(h1:∀a,f a=(f' a).bind k)(h2:∀a,g a=(g' a).bind k):pz o f g=(pz o f' g').bind k:=by rw[alJ,funext h1,funext h2]
def IY{x:α}{f:α->Option R}{g:α->Option ρ}(h:∀a,f a=(g a).bind k):letE x f=(letE x g).bind k:=by rw[alK,funext h]
end
end
end Go.Vm
namespace Go.Vm
open Go
open Go.IntKind (i64)
def aB{n:Int}(h1: -9223372036854775808<=n)(h2:n<=9223372036854775807):i64.wrap n=n:=IntWalk.i64_in n ⟨h1,h2⟩
def ag4{α β:Type}(f:α->β)(l:List α)(i:Int):idx (l.map f) i=(idx l i).map f:=by unfold idx;cases decide (0<=i)<;>simp
def bC{α:Type}(l:List α)(i:Nat):idx l (i:Int)=l[i]? :=by simp[idx]
structure Nd where
 kind:Int
 op:Int
 text:List UInt8
 other:List UInt8
 kids:List Int
 deriving DecidableEq,Inhabited
def encI(l:List Int):List Row:=l.map λk=>[.int .i64 k]
def encS(l:List (List UInt8)):List Row:=l.map λs=>[.str s]
def XY(o:Bool)(n:Nd):Row:=[.int .i64 n.kind,.int .i64 n.op,.str n.text,.str n.other,.sl o 1 (encI n.kids)]
def aZ(o:Bool)(l:List Nd):List Row:=l.map (XY o)
structure Tk where
 kind:Int
 text:List UInt8
 at_:Int
 deriving DecidableEq,Inhabited
def ach(n:Tk):Row:=[.int .i64 n.kind,.str n.text,.int .i64 n.at_]
def iP(l:List Tk):List Row:=l.map ach
section
variable (o:Bool) (n:Nd) (l:List Nd) (k:List Int) (i:Int) (t:Tk) (ts:List Tk)
@[simp] theorem aV:(encI k).length=k.length:=by simp[encI]
@[simp] theorem jH:(aZ o l).length=l.length:=by simp[aZ]
@[simp] theorem eU:(iP ts).length=ts.length:=by simp[iP]
@[simp] theorem aie:idx (encI k) i=(idx k i).map λk=>[D.int .i64 k]:=ag4 _ _ _
@[simp] theorem aJd:idx (aZ o l) i=(idx l i).map (XY o):=ag4 _ _ _
@[simp] theorem aJe:idx (iP ts) i=(idx ts i).map ach:=ag4 _ _ _
@[simp] theorem lC(j:Nat):(encI k)[j]? =(k[j]?).map λk=>[D.int .i64 k]:=by simp[encI]
@[simp] theorem ql(j:Nat):(aZ o l)[j]? =(l[j]?).map (XY o):=by simp[aZ]
@[simp] theorem aaP(j:Nat):(iP ts)[j]? =(ts[j]?).map ach:=by simp[iP]
@[simp] theorem NJ:bK .i64 (XY o n) 0=some n.kind:=rfl
@[simp] theorem PG:bK .i64 (XY o n) 1=some n.op:=rfl
@[simp] theorem Pn:cStr (XY o n) 2=some n.text:=rfl
@[simp] theorem PI:cStr (XY o n) 3=some n.other:=rfl
@[simp] theorem JM:NK 1 (XY o n) 4=some (encI n.kids):=rfl
@[simp] theorem cT0:bK .i64 (ach t) 0=some t.kind:=rfl
@[simp] theorem cT1:cStr (ach t) 1=some t.text:=rfl
@[simp] theorem cT2:bK .i64 (ach t) 2=some t.at_:=rfl
@[simp] theorem KT:bK .i64 [D.int .i64 i] 0=some i:=rfl
@[simp] theorem atY:aG (encI k)=encI k:=by
 induction k with
 |nil=>rfl
 |cons x l ih=>simp only[encI,RQ,aG] at ih|-;rw[ih];rfl
@[simp] theorem aif:aG (aZ o l)=aZ false l:=by
 induction l with
 |nil=>rfl
 |cons x l ih=>simp only[aZ,RQ,aG] at ih|-;rw[ih];simp[XY,qm,D.fz,atY]
@[simp] theorem aJI:aG (iP ts)=iP ts:=by
 induction ts with
 |nil=>rfl
 |cons x l ih=>simp only[iP,RQ,aG] at ih|-;rw[ih];simp[ach,qm,D.fz]
@[simp] theorem Iy:aA (encI k)=true:=by simp only[aA,encI,List.all_map,List.all_eq_true];intro x _;rfl
def axz(j:Nat):(encI k).set j [D.int .i64 i]=encI (k.set j i):=by simp[encI,List.map_set]
end
def I64(n:Int):Prop:= -9223372036854775808<=n/\n<=9223372036854775807
structure Fit(n:Nd):Prop where
 kind:I64 n.kind
 op:I64 n.op
 text:n.text.length<=maxLen
 other:n.other.length<=maxLen
 kids:n.kids.length<=maxLen
 kid:∀k,k∈n.kids->I64 k
structure a7o(n:Tk):Prop where
 kind:I64 n.kind
 text:n.text.length<=maxLen
 at_:I64 n.at_
def aii{α ω τ:Type}(f:ω->α->ω⊕τ)(fin:ω->τ):List α->ω->τ
 |[],w=>fin w
 |x::l,w=>match f w x with
  | .inl w'=>aii f fin l w'
  | .inr t=>t
def asO{σ τ α ω:Type}(b:σ->Option (σ⊕τ))(l:List α)(st:Nat->ω->σ)(f:ω->α->ω⊕τ)(fin:ω->τ)(I:Nat->ω->Prop)
  (hstep:∀i x w,l[i]? =some x->I i w->b (st i w)=some (match f w x with| .inl w'=> .inl (st (i+1) w')| .inr t=> .inr t))
  (hI:∀i x w w',l[i]? =some x->I i w->f w x=.inl w'->I (i+1) w')
  (hend:∀w,I l.length w->b (st l.length w)=some (.inr (fin w))) (w:ω) (h0:I 0 w):dM b (st 0 w)=some (aii f fin l w):=by
 have key:∀(t:List α) (i:Nat) (w:ω),l.drop i=t->i<=l.length->I i w->dM b (st i w)=some (aii f fin t w):=by
  intro t;induction t with
  |nil=>
   intro i w hd hi hI';have:i=l.length:=by have:=congrArg List.length hd;simp at this;omega
   subst this;exact aY (hend w hI')
  |cons x t ih=>
   intro i w hd hi hI';have hx:l[i]? =some x:=by
    have:(l.drop i)[0]? =some x:=by rw[hd];rfl
    simpa using this
   have hlt:i<l.length:=(PU.1 hx).1;have hd':l.drop (i+1)=t:=by rw[<-List.drop_drop,hd];rfl
   have hs:=hstep i x w hx hI';simp only[aii];cases hf:f w x with
   |inl w'=>rw[hf] at hs;rw[cu hs];exact ih (i+1) w' hd' hlt (hI i x w w' hx hI' hf)
   |inr u=>rw[hf] at hs;exact aY hs
 exact key l 0 w rfl (Nat.zero_le _) h0
end Go.Vm
namespace Go.Vm
open Go
open Go.IntKind (i64)
section
variable {X:Ctx} {base:Nat} {U:Nat->Prop} {w w':World} {f:FuncId} {gargs jB:List Value} {N1 N2:List Nat} {P:Program}
def ac7{args:List V}(hG:Given X base U w f args [] gargs jB N1 N2)(hm:∀i,i<args.length->JO X.UN f i=0):
  jB=[]/\N1=[]/\N2=[]/\dn (impμ []) [] (view w U (· ∈([]:List Nat)++[])) args gargs:=by
 obtain⟨rfl,rfl⟩:=hG.cells;have key:∀(args:List V) (i:Nat) (gs:List Value) (N:List Nat) (hv:View),(∀j,i<=j->j<i+args.length->JO X.UN f j=0)->VK X.UN f (impμ []) (uP 0 []) (dU w) hv i args gs N->N=[]/\dn (impμ []) [] hv args gs:=by
  intro args;induction args with
  |nil=>intro i gs N hv _ h;simp only[VK] at h;exact⟨h.2,by simpa[dn] using h.1⟩
  |cons a args ih=>intro i gs N hv hi h;simp only[VK,hi i (Nat.le_refl _) (by simp)] at h;obtain⟨g,gs',M1,M2,rfl,rfl,⟨rfl,hq⟩,hr⟩:=h;obtain⟨rfl,hs⟩:=ih (i+1) gs' M2 hv (λj h1 h2=>hi j ak (by simp only[nS];omega)) hr;exact⟨rfl,by simp only[dn];exact⟨g,gs',rfl,hq,hs⟩⟩
 obtain⟨rfl,hs⟩:=key args 0 gargs N1 _ (λj _ hj=>hm j ak) hG.args;exact⟨rfl,rfl,rfl,hs⟩
def aij{μ:Nat->Value}{m:Mem}{h:View}{a b:List UInt8}(q:dn μ m h [.d (.str a),.d (.str b)] gargs):gargs=[.string ⟨⟨a⟩⟩,.string ⟨⟨b⟩⟩]:=by simp only[dn,aU,ro] at q;obtain⟨g,gs,rfl,rfl,g',gs',rfl,rfl,rfl⟩:=q;rfl
def YG{t:TypeId}{x:D}{g:Value}(ht:Us P t=false)(hpt:ahp P t=none)(hx:∀H h,ow H h x g [])(hk:Keep [] w w'):Did P U w w' ([]++[]) [t] [] [] [] [[x]] [g] [] []:=by
 refine⟨hk,by simp,by simp,rfl,⟨rfl,rfl⟩, ?_⟩;simp only[WT];refine⟨_,_,_,_,[],[],rfl,rfl,rfl,(P8 hpt).2 ⟨[g], ?_, ?_,rfl⟩,rfl,rfl,rfl⟩
 ·rw[valOf,if_neg (by rw[ht];simp)]
 ·simp only[jE];exact⟨_,_,[],[],rfl,rfl,hx _ _,rfl⟩
def afC{H:Heap}{h:View}:∀(l:List (List UInt8)),iK H h 1 (encS l) (l.map λs=>Value.string ⟨⟨s⟩⟩) []
 |[]=>rfl
 |s::l=>by simp only[encS,RQ,iK];refine⟨rfl,[],[],rfl, ?_,afC l⟩;simp only[jE];exact⟨_,_,[],[],rfl,rfl,⟨rfl,rfl⟩,rfl⟩
def axA{t T:TypeId}{l:List (List UInt8)}(hl:l≠[])(ht:Us P t=false)(hpt:ahp P t=none)(hU:∀b,w.heap.size<=b->U b):
  Did P U w (w.alloc (.cells (l.map λs=>Value.string ⟨⟨s⟩⟩).toArray T)) ([]++[]) [t] [] [] [] [[.sl true 1 (encS l)]] [.slice (some ⟨w.heap.size,0,none⟩) l.length l.length] [] [w.heap.size]:=by
 refine⟨Yz,by simp,λb hb=> ?_,rfl,⟨rfl,rfl⟩, ?_⟩
 ·simp at hb;subst hb;exact⟨.inr (Nat.le_refl _),by rw[World.size_alloc];omega⟩
 ·simp only[WT];refine⟨_,_,_,_,[w.heap.size],[],rfl,rfl,rfl,(P8 hpt).2 ⟨[.slice (some ⟨w.heap.size,0,none⟩) l.length l.length], ?_, ?_,rfl⟩,rfl,rfl,rfl⟩
  ·rw[valOf,if_neg (by rw[ht];simp)]
  ·simp only[jE];refine⟨_,_,[w.heap.size],[],rfl,rfl, ?_,rfl⟩;simp only[ow];refine .inr ⟨w.heap.size,l.length,(l.map λs=>Value.string ⟨⟨s⟩⟩).toArray,T,[], ?_, ?_,XM rfl, ?_,afC l,rfl⟩
   ·simp[encS]
   ·simp[encS]
   ·simp
end
end Go.Vm
namespace Go.Vm
open Go
open Go.IntKind (i64)
inductive Tn where
 |mk (kind op:Int) (text other:List UInt8) (kids:List Tn)
mutual
def Tn.size:Tn->Nat
 | .mk _ _ _ _ ks=>sizes ks+1
def sizes:List Tn->Nat
 |[]=>0
 |t::ts=>t.size+sizes ts
end
def ends:List Tn->Nat->List Int
 |[],_=>[]
 |t::ts,b=>((b:Int)+t.size - 1)::ends ts (b+t.size)
mutual
def Tn.flat:Tn->Nat->List Nd
 | .mk k o x y ks,b=>jF ks b++[⟨k,o,x,y,ends ks b⟩]
def jF:List Tn->Nat->List Nd
 |[],_=>[]
 |t::ts,b=>t.flat b++jF ts (b+t.size)
end
mutual
def Tn.row(w:Bool):Tn->Row
 | .mk k o x y ks=>[.int .i64 k,.int .i64 o,.str x,.str y,.sl w 5 (fG w ks)]
def fG(w:Bool):List Tn->List Row
 |[]=>[]
 |t::ts=>t.row w::fG w ts
end
mutual
def Tn.depth:Tn->Int
 | .mk _ _ _ _ ks=>depths 0 ks+1
def depths(a:Int):List Tn->Int
 |[]=>a
 |t::ts=>depths (bif decide (a<t.depth) then t.depth else a) ts
end
def Tn.kids:Tn->List Tn| .mk _ _ _ _ ks=>ks
def Tn.kind:Tn->Int| .mk k _ _ _ _=>k
def Tn.op:Tn->Int| .mk _ o _ _ _=>o
def Tn.text:Tn->List UInt8| .mk _ _ x _ _=>x
def Tn.other:Tn->List UInt8| .mk _ _ _ y _=>y
def Tn.ind{P:Tn->Prop}(h:∀k o x y ks,(∀t,t∈ks->P t)->P (.mk k o x y ks))(t:Tn):P t:=by
 refine Tn.rec (motive_1:=P) (motive_2:=λks=>∀t,t∈ks->P t) ?_ ?_ ?_ t
 ·intro k o x y ks ih;exact h k o x y ks ih
 ·intro t ht;cases ht
 ·intro t ts h1 h2 u hu;rcases List.mem_cons.1 hu with rfl|hu
  ·exact h1
  ·exact h2 u hu
def Tn.size_pos:∀t:Tn,1<=t.size
 | .mk _ _ _ _ ks=>by rw[Tn.size];omega
def Tn.vk(t:Tn):t.size=sizes t.kids+1:=by cases t;rfl
def kU:∀a b:List Tn,sizes (a++b)=sizes a+sizes b
 |[],b=>by simp[sizes]
 |t::a,b=>by rw[Yr,sizes,sizes,kU a b];omega
def jC:∀ks:List Tn,ks.length<=sizes ks
 |[]=>Nat.le_refl _
 |t::ts=>by have:=jC ts;have:=t.size_pos;rw[sizes,nS];omega
def iO:∀{ks:List Tn} {t:Tn},t∈ks->t.size<=sizes ks
 |u::ts,t,h=>by
  rw[sizes];rcases List.mem_cons.1 h with rfl|h
  ·omega
  ·have:=iO h;omega
def Iz:∀a:List Tn,sizes a.reverse=sizes a
 |[]=>rfl
 |t::a=>by rw[List.reverse_cons,kU,Iz a,sizes,sizes,sizes];omega
def eX:∀(ks:List Tn) (b:Nat),(ends ks b).length=ks.length
 |[],_=>rfl
 |t::ts,b=>by rw[ends,nS,eX ts,nS]
def W9:∀(a c:List Tn) (b:Nat),ends (a++c) b=ends a b++ends c (b+sizes a)
 |[],c,b=>by simp[ends,sizes]
 |t::a,c,b=>by rw[Yr,ends,ends,W9 a c,sizes,Yr,Nat.add_assoc]
def Qe:∀(a c:List Tn) (b:Nat),jF (a++c) b=jF a b++jF c (b+sizes a)
 |[],c,b=>by simp[jF,sizes]
 |t::a,c,b=>by rw[Yr,jF,jF,Qe a c,sizes,NI,Nat.add_assoc]
mutual
def Tn.flat_length:∀(t:Tn) (b:Nat),(t.flat b).length=t.size
 | .mk _ _ _ _ ks,b=>by rw[Tn.flat,Tn.size,qK,oh ks b];rfl
def oh:∀(ks:List Tn) (b:Nat),(jF ks b).length=sizes ks
 |[],_=>rfl
 |t::ts,b=>by rw[jF,sizes,qK,t.flat_length b,oh ts]
end
def axB{ks:List Tn}{b j:Nat}(h:j<ks.length):(ends ks b)[j]? =some ((b:Int)+sizes (ks.take (j+1)) - 1):=by
 induction ks generalizing b j with
 |nil=>simp at h
 |cons t ts ih=>
  cases j with
  |zero=>simp[ends,sizes]
  |succ j=>simp only[nS,Nat.add_lt_add_iff_right] at h;rw[ends,List.getElem?_cons_succ,ih h,List.take_succ_cons,sizes];congr 1;omega
def Nd.up(d:Int)(n:Nd):Nd:={n with kids:=n.kids.map (· +d)}
def atZ:∀(ks:List Tn) (b c:Nat),ends ks c=(ends ks b).map (· +((c:Int) - b))
 |[],_,_=>rfl
 |t::ts,b,c=>by rw[ends,ends,RQ,atZ ts (b+t.size) (c+t.size)];have e:(((c+t.size:Nat):Int) - ((b+t.size:Nat):Int))=(c:Int) - b:=ak;rw[e];congr 1;omega
mutual
def Tn.ani:∀(t:Tn) (b c:Nat),t.flat c=(t.flat b).map (Nd.up ((c:Int) - b))
 | .mk k o x y ks,b,c=>by rw[Tn.flat,Tn.flat,List.map_append,aoE ks b c,atZ ks b c];rfl
def aoE:∀(ks:List Tn) (b c:Nat),jF ks c=(jF ks b).map (Nd.up ((c:Int) - b))
 |[],_,_=>rfl
 |t::ts,b,c=>by rw[jF,jF,List.map_append,t.ani b c,aoE ts (b+t.size) (c+t.size)];have e:(((c+t.size:Nat):Int) - ((b+t.size:Nat):Int))=(c:Int) - b:=ak;rw[e]
end
def Lies(l:List Nd)(b:Nat)(t:Tn):Prop:=∃pre post,l=pre++(t.flat b++post)/\pre.length=b
def Lies.whole(t:Tn):Lies (t.flat 0) 0 t:=⟨[],[],by simp,rfl⟩
def Lies.root{l:List Nd}{b:Nat}{k o:Int}{x y:List UInt8}{ks:List Tn}(h:Lies l b (.mk k o x y ks)):l[b+sizes ks]? =some ⟨k,o,x,y,ends ks b⟩:=by obtain⟨pre,post,rfl,rfl⟩:=h;rw[Tn.flat,List.getElem?_append_right ak,NI,List.getElem?_append_right (by rw[oh];omega),oh];simp
def Lies.kid{l:List Nd}{b:Nat}{k o:Int}{x y:List UInt8}{a c:List Tn}{t:Tn}(h:Lies l b (.mk k o x y (a++t::c))):Lies l (b+sizes a) t:=by obtain⟨pre,post,rfl,rfl⟩:=h;refine⟨pre++jF a pre.length,jF c (pre.length+sizes a+t.size)++[⟨k,o,x,y,ends (a++t::c) pre.length⟩]++post, ?_,by rw[qK,oh]⟩;rw[Tn.flat,Qe,jF];simp only[NI]
def Lies.lt{l:List Nd}{b:Nat}{t:Tn}(h:Lies l b t):b+t.size<=l.length:=by obtain⟨pre,post,rfl,rfl⟩:=h;simp only[qK,t.flat_length];omega
def Lies.part{l:List Nd}{b:Nat}{t:Tn}(h:Lies l b t):(l.drop b).take t.size=t.flat b:=by obtain⟨pre,post,rfl,rfl⟩:=h;rw[List.drop_left,<-t.flat_length pre.length,List.take_left]
def dV(st:List Int):List Int->Int->Option Int
 |[],at_=>some at_
 |k::ks,at_=>if at_<0\/k≠at_ then none else dV st ks ((st[k.toNat]?.getD 0) - 1)
def fU:List Int->List (List Int)->Option (List Int)
 |st,[]=>some st
 |st,n::l=>match dV st n.reverse ((st.length:Int) - 1) with
  |none=>none
  |some at_=>fU (st++[at_+1]) l
def qV(l:List (List Int)):Option (List Int):=if 1<=l.length/\l.length<=400 then fU [] l else none
def ks(l:List Nd):List (List Int):=l.map (·.kids)
def JV(l:List Nd):Bool:=match qV (ks l) with
 |none=>false
 |some st=>st[l.length - 1]?.getD 0==0
def SC(l:List Nd):(ks l).length=l.length:=by simp[ks]
def avF(a b:List Nd):ks (a++b)=ks a++ks b:=by simp[ks]
def VU(st:List Int):List Tn->Prop
 |[]=>True
 |t::ts=>st[sizes (t::ts) - 1]? =some (sizes ts:Int)/\VU st ts
def alL{st u:List Int}:∀{ts:List Tn},sizes ts<=st.length->(VU (st++u) ts↔VU st ts)
 |[],_=>Iff.rfl
 |t::ts,h=>by
  have hp:=t.size_pos;have h1:sizes ts<=st.length:=by rw[sizes] at h;omega
  rw[VU,VU,alL h1,List.getElem?_append_left (by rw[sizes] at h|-;omega)]
def aik{st:List Int}:∀{ks:List Int} {ts:List Tn} {a:Int},VU st ts->dV st ks ((sizes ts:Int) - 1)=some a->
  ∃u v,ts=u++v/\ks.reverse=ends u.reverse (sizes v)/\a=(sizes v:Int) - 1
 |[],ts,a,_,h=>by rw[dV] at h;cases h;exact⟨[],ts,rfl,rfl,rfl⟩
 |k::ks,[],a,_,h=>by rw[dV,if_pos (.inl (by simp[sizes]))] at h;cases h
 |k::ks,t::ts,a,hr,h=>by
  have hp:=t.size_pos;have hs:sizes (t::ts)=t.size+sizes ts:=by rw[sizes]
  rw[dV] at h;split at h
  ·cases h
  ·rename_i hc;have hk:k=(sizes (t::ts):Int) - 1:=ak;have hk':k.toNat=sizes (t::ts) - 1:=ak;rw[hk',hr.1,Option.getD_some] at h;obtain⟨u,v,rfl,h1,h2⟩:=aik hr.2 h;refine⟨t::u,v,rfl, ?_,h2⟩;rw[List.reverse_cons,List.reverse_cons,h1,W9,Iz,hk,hs,kU,ends,ends];congr 2;omega
def ail{st:List Int}:∀{u v:List Tn},VU st (u++v)->VU st v
 |[],_,h=>h
 |_::u,_,h=>ail (u:=u) h.2
def ac8:∀(l pre:List Nd) (st r:List Int) (ts:List Tn),pre=jF ts.reverse 0->st.length=pre.length->VU st ts->fU st (ks l)=some r->
  ∃us,pre++l=jF us.reverse 0/\r.length=(pre++l).length/\VU r us
 |[],pre,st,r,ts,h1,h2,h3,h=>by rw[show ks []=[] from rfl,fU] at h;cases h;exact⟨ts,by simpa using h1,by simpa using h2,h3⟩
 |n::l,pre,st,r,ts,h1,h2,h3,h=>by
  have hk:ks (n::l)=n.kids::ks l:=rfl;have hpl:pre.length=sizes ts:=by rw[h1,oh,Iz]
  rw[hk,fU] at h;split at h
  ·cases h
  ·rename_i a ha;rw[h2,hpl] at ha;obtain⟨u,v,rfl,hu,rfl⟩:=aik h3 ha;rw[List.reverse_reverse] at hu;have hz:sizes (Tn.mk n.kind n.op n.text n.other u.reverse::v)=sizes u+1+sizes v:=by rw[sizes,Tn.size,Iz]
   have:=ac8 l (pre++[n]) (st++[(sizes v:Int) - 1+1]) r (Tn.mk n.kind n.op n.text n.other u.reverse::v) (by
    rw[h1,List.reverse_append,List.reverse_cons,Qe,Qe,jF,jF,Tn.flat,List.append_nil,NI,Iz,Nat.zero_add,<-hu]) (by simp[h2]) (by
    refine⟨?_, ?_⟩
    ·rw[hz,List.getElem?_append_right (by rw[h2,hpl,kU];omega),h2,hpl,kU];rw[show sizes u+1+sizes v - 1 - (sizes u+sizes v)=0 by omega];simp
    ·rw[alL (by rw[h2,hpl,kU];omega)];exact ail h3) h
   obtain⟨us,k1,k2,k3⟩:=this;exact⟨us,by simpa using k1,by simpa using k2,k3⟩
def asP{l:List Nd}(h:JV l=true):∃t:Tn,l=t.flat 0/\t.size<=400:=by
 unfold JV at h;cases hs:qV (ks l) with
 |none=>rw[hs] at h;cases h
 |some r=>
  rw[hs] at h;unfold qV at hs;split at hs
  ·rename_i hq;rw[SC] at hq;obtain⟨us,k1,k2,k3⟩:=ac8 l [] [] r [] rfl rfl trivial hs;simp only[List.nil_append] at k1 k2;have hl:l.length=sizes us:=by rw[k1,oh,Iz]
   cases us with
   |nil=>rw[sizes] at hl;omega
   |cons t ts=>
    rw[VU,<-hl] at k3;simp only[k3.1,Option.getD_some,beq_iff_eq] at h;have:ts=[]:=by
     cases ts with
     |nil=>rfl
     |cons u us=>have:=u.size_pos;rw[sizes] at h;omega
    subst this;refine⟨t,by simpa[jF] using k1, ?_⟩;rw[sizes,sizes] at hl;omega
  ·cases hs
mutual
def Tn.sts:Tn->Nat->List Int
 | .mk _ _ _ _ ks,b=>WG ks b++[(b:Int)]
def WG:List Tn->Nat->List Int
 |[],_=>[]
 |t::ts,b=>t.sts b++WG ts (b+t.size)
end
mutual
def Tn.ain:∀(t:Tn) (b:Nat),(t.sts b).length=t.size
 | .mk _ _ _ _ ks,b=>by rw[Tn.sts,Tn.size,qK,Uz ks b];rfl
def Uz:∀(ks:List Tn) (b:Nat),(WG ks b).length=sizes ks
 |[],_=>rfl
 |t::ts,b=>by rw[WG,sizes,qK,t.ain b,Uz ts]
end
def Tn.aio:∀(t:Tn) (b:Nat),∃u,t.sts b=u++[(b:Int)]/\u.length=t.size - 1
 | .mk _ _ _ _ ks,b=>⟨WG ks b,by rw[Tn.sts],by rw[Uz,Tn.size];omega⟩
def avG{st:List Int}{b:Nat}(hb:st.length=b):∀(ks:List Tn) (u:List Int),dV (st++WG ks b++u) (ends ks b).reverse ((b:Int)+sizes ks - 1)=some ((b:Int) - 1):=by
 intro ks;induction hn:ks.length generalizing ks with
 |zero=>intro u;have:ks=[]:=List.length_eq_zero_iff.1 hn;subst this;simp[ends,dV,sizes]
 |succ n ih=>
  intro u;obtain⟨ts,t,rfl⟩:∃ts t,ks=ts++[t]:=by
   have hne:ks≠[]:=by intro e;simp[e] at hn
   exact⟨ks.dropLast,ks.getLast hne,(List.dropLast_concat_getLast hne).symm⟩
  have hp:=t.size_pos;have hss:WG (ts++[t]) b=WG ts b++t.sts (b+sizes ts):=by
   have:∀(ts:List Tn) (b:Nat),WG (ts++[t]) b=WG ts b++t.sts (b+sizes ts):=by
    intro ts;induction ts with
    |nil=>intro b;simp[WG,sizes]
    |cons v vs ihv=>intro b;rw[Yr,WG,WG,ihv,sizes,NI,Nat.add_assoc]
   exact this ts b
  have hsz:sizes (ts++[t])=sizes ts+t.size:=by rw[kU,sizes,sizes];omega
  rw[W9,List.reverse_append,ends,ends,List.reverse_singleton,List.singleton_append,dV,hsz];have hn':¬((b:Int)+((sizes ts+t.size:Nat):Int) - 1<0\/((b+sizes ts:Nat):Int)+t.size - 1≠(b:Int)+((sizes ts+t.size:Nat):Int) - 1):=ak;rw[if_neg hn'];obtain⟨w,hw,hwl⟩:=t.aio (b+sizes ts);have hget:(st++WG (ts++[t]) b++u)[(((b+sizes ts:Nat):Int)+t.size - 1).toNat]? =some ((b+sizes ts:Nat):Int):=by
   rw[hss,hw];have e:(((b+sizes ts:Nat):Int)+t.size - 1).toNat=(st++WG ts b++w).length:=by simp only[qK,hb,Uz,hwl];omega
   rw[e,show st++(WG ts b++(w++[((b+sizes ts:Nat):Int)]))++u=(st++WG ts b++w)++(((b+sizes ts:Nat):Int)::u) by simp,List.getElem?_append_right (Nat.le_refl _)];simp
  rw[hget,Option.getD_some,hss,show st++(WG ts b++t.sts (b+sizes ts))++u=st++WG ts b++(t.sts (b+sizes ts)++u) by simp];have:=ih ts (by simpa using hn) (t.sts (b+sizes ts)++u);rw[<-this];congr 1
mutual
def Tn.ZR:∀(t:Tn) (st:List Int) (l:List Nd),fU st (ks (t.flat st.length++l))=fU (st++t.sts st.length) (ks l)
 | .mk k o x y us,st,l=>by rw[Tn.flat,NI,ac9 us st];have e:ks ([⟨k,o,x,y,ends us st.length⟩]++l)=ends us st.length::ks l:=rfl;have hw:=avG (st:=st) rfl us [];rw[List.append_nil] at hw;rw[e,fU,qK,Uz,Int.natCast_add,hw,Tn.sts];simp only;rw[NI];congr 3;simp
def ac9:∀(us:List Tn) (st:List Int) (l:List Nd),fU st (ks (jF us st.length++l))=fU (st++WG us st.length) (ks l)
 |[],st,l=>by simp[jF,WG]
 |t::us,st,l=>by rw[jF,NI,t.ZR st];have:=ac9 us (st++t.sts st.length) l;rw[qK,t.ain] at this;rw[this,WG,NI]
end
def ZT(t:Tn):fU [] (ks (t.flat 0))=some (t.sts 0):=by have:=t.ZR [] [];simpa[ks,fU] using this
def Lies.sts{l:List Nd}{t:Tn}(hl:l=t.flat 0){b:Nat}{u:Tn}(h:Lies l b u):(t.sts 0)[b+u.size - 1]? =some (b:Int):=by
 obtain⟨pre,post,e,hb⟩:=h;have h0:=ZT t;rw[<-hl,e,avF] at h0;have key:∀(a c:List (List Int)) (st r:List Int),fU st (a++c)=some r->∃m,fU st a=some m/\fU m c=some r/\m.length=st.length+a.length:=by
  intro a;induction a with
  |nil=>intro c st r h;exact⟨st,rfl,h,by simp⟩
  |cons x a ih=>
   intro c st r h;rw[Yr,fU] at h;rw[fU];split at h
   ·cases h
   ·obtain⟨m,k1,k2,k3⟩:=ih c _ r h;exact⟨m,k1,k2,by rw[k3];simp;omega⟩
 obtain⟨m,k1,k2,k3⟩:=key _ _ _ _ h0;have hm:m.length=b:=by rw[k3,SC,hb];simp
 subst hm;rw[u.ZR m post] at k2;have pref:∀(a:List (List Int)) (st r:List Int),fU st a=some r->∃w,r=st++w:=by
  intro a;induction a with
  |nil=>intro st r h;cases h;exact⟨[],by simp⟩
  |cons x a ih=>
   intro st r h;rw[fU] at h;split at h
   ·cases h
   ·obtain⟨w,hw⟩:=ih _ r h;exact⟨_,by rw[hw,NI]⟩
 obtain⟨w,hw⟩:=pref _ _ _ k2;obtain⟨v,hv,hvl⟩:=u.aio m.length;have hp:=u.size_pos;rw[hw,hv,show m++(v++[(m.length:Int)])++w=(m++v)++((m.length:Int)::w) by simp,show m.length+u.size - 1=(m++v).length by rw[qK,hvl];omega,List.getElem?_append_right (Nat.le_refl _)];simp
def XZ(w:Bool):∀ts:List Tn,fG w ts=ts.map (Tn.row w)
 |[]=>rfl
 |t::ts=>by rw[fG,XZ w ts];rfl
mutual
def aGm(w:Bool):∀t:Tn,qm (t.row w)=t.row false
 | .mk k o x y ts=>by have:=aip w ts;simp only[Tn.row,qm,D.fz,this]
def aip(w:Bool):∀ts:List Tn,aG (fG w ts)=fG false ts
 |[]=>rfl
 |t::ts=>by rw[fG,aG,aGm w t,aip w ts,fG]
end
end Go.Vm
namespace Go.Vm
open Go
open Go.IntKind (i64)
def it{α:Type}(f:α->α):Nat->α->α
 |0,x=>x
 |n+1,x=>it f n (f x)
def asQ{α:Type}(f:α->α)(x:α):it f 0 x=x:=rfl
def ag5{α:Type}(f:α->α)(n:Nat)(x:α):it f (n+1) x=it f n (f x):=rfl
def aiq{α:Type}(f:α->α):∀(m n:Nat) (x:α),it f (m+n) x=it f n (it f m x)
 |0,n,x=>by rw[Nat.zero_add];rfl
 |m+1,n,x=>by rw[Nat.add_right_comm];exact aiq f m n (f x)
def anj{α:Type}(f:α->α)(n:Nat)(x:α):it f (n+1) x=f (it f n x):=aiq f n 1 x
def air:Nat:=18446744073709551616
def ada(x:Nat):Nat:=(6364136223846793005 * x+1442695040888963407) % air
def pwT:List (Nat×Nat):=[(6364136223846793005,1442695040888963407),(7520897724310334953,1876011003808476466),(18108194425815612945,7401132627792533940),(13086856194709077281,6566661184467396264),(10186629832379121217,3646985772805368400),(10828933358287359105,982119659650238624),(4910590176156014849,10607473198416945472),(9908147928152388097,6914523672464851584),(146241703003251713,4689171378020353280),(7321387688379467777,8103286608563669504),(12255457568021647361,7710372194127975424),(9867978473775767553,16043993925053589504),(5088048636545613825,1993901509916512256),(2150478223927705601,13175896319671181312),(9196835419631190017,1993366741509554176),(5957860013156466689,7241871532530761728),(10389140232424652801,9829074100562493440),(13023643825678581761,7211655632440131584),(288945459443007489,14014807304630960128),(13413133364217511937,15586959662575517696),(8991946233350193153,5614651135149211648),(1986842707489718273,10449321915693662208),(13772462672974970881,17778722412968280064),(11399802156803424257,4631015078550831104),(13559343778149433345,14683519683525607424),(8604389488178757633,14159509325327892480),(16938562998715285505,4382386631181598720),(14349518013152100353,5251965553014210560),(5928836310318972929,14899444342342025216),(13010594125244792833,10487453482519363584),(12186130195207421953,17516142451218186240),(5925516316705292289,2750482773444657152),(11851032633410584577,5500965546889314304),(5255321193111617537,11001931093778628608),(10510642386223235073,3557118113847705600),(2574540698736918529,7114236227695411200),(5149081397473837057,14228472455390822400),(10298162794947674113,10010200837072093184),(2149581516185796609,1573657600434634752),(4299163032371593217,3147315200869269504),(8598326064743186433,6294630401738539008),(17196652129486372865,12589260803477078016),(15946560185263194113,6731777533244604416),(13446376296816836609,13463555066489208832),(8446008519924121601,8480366059268866048),(16892017039848243201,16960732118537732096),(15337290005986934785,15474720163365912576),(12227835938264317953,12502696253022273536),(6008927802819084289,6558648432334995456),(12017855605638168577,13117296864669990912),(5588967137566785537,7787849655630430208),(11177934275133571073,15575699311260860416),(3909124476557590529,12704654548812169216),(7818248953115181057,6962565023914786816),(15636497906230362113,13925130047829573632),(12826251738751172609,9403516021949595648),(7205759403792793601,360287970189639680),(14411518807585587201,720575940379279360),(10376293541461622785,1441151880758558720),(2305843009213693953,2882303761517117440),(4611686018427387905,5764607523034234880),(9223372036854775809,11529215046068469760),(1,4611686018427387904),(1,9223372036854775808)]
def ag6:List (Nat×Nat)->Bool
 |a::l=>(match l with
  |b::_=>Nat.beq b.1 (a.1 * a.1 % air) && Nat.beq b.2 ((a.1 * a.2+a.2) % air)
  |[]=>true) && ag6 l
 |[]=>true
def aoF:Nat->List (Nat×Nat)->Bool
 |p,a::l=>Nat.beq (a.1 %(2 * p)) 1 &&(Nat.beq (a.2 %(2 * p)) p && aoF (2 * p) l)
 |_,[]=>true
def axC:ag6 pwT=true:=by kernel_rfl
def aGn:aoF 1 pwT=true:=by kernel_rfl
def aGo:pwT.length=64:=by kernel_rfl
def aff(M a c x:Nat):(a * ((a * x+c) % M)+c) % M=(a * a % M * x+(a * c+c) % M) % M:=by
 have h1:(a * ((a * x+c) % M)+c) % M=(a * (a * x+c)+c) % M:=by rw[Nat.add_mod,Nat.mul_mod,Nat.mod_mod,<-Nat.mul_mod,<-Nat.add_mod]
 have h2:(a * a % M * x+(a * c+c) % M) % M=(a * a * x+(a * c+c)) % M:=by rw[Nat.add_mod,Nat.mod_mod,Nat.mul_mod,Nat.mod_mod,<-Nat.mul_mod,<-Nat.add_mod]
 rw[h1,h2,Nat.mul_add,Nat.mul_assoc,Nat.add_assoc]
def at1:∀(l:List (Nat×Nat)) (k:Nat) (a:Nat×Nat),ag6 (a::l)=true->(∀x,it ada (2 ^ k) x=(a.1 * x+a.2) % air)->∀(j:Nat) q,(a::l)[j]? =some q->∀x,it ada (2 ^(k+j)) x=(q.1 * x+q.2) % air
 |l,k,a,_,h,0,q,hq=>by cases hq;exact h
 |[],k,a,_,h,j+1,q,hq=>by simp at hq
 |b::l,k,a,hs,h,j+1,q,hq=>by
  rw[ag6] at hs;simp only[MS] at hs;have h1:=Hy hs.1.1;have h2:=Hy hs.1.2;have hb:∀x,it ada (2 ^(k+1)) x=(b.1 * x+b.2) % air:=by intro x;rw[Nat.pow_succ,Nat.mul_two,aiq,h x,h,h1,h2,aff]
  rw[<-Nat.add_assoc,Nat.add_right_comm];exact at1 l (k+1) b hs.2 hb j q (by simpa using hq)
def aoG:∀(l:List (Nat×Nat)) (k:Nat),aoF (2 ^ k) l=true->∀(j:Nat) q,l[j]? =some q->q.1 % 2 ^(k+j+1)=1/\q.2 % 2 ^(k+j+1)=2 ^(k+j)
 |[],k,_,j,q,hq=>by simp at hq
 |a::l,k,h,0,q,hq=>by cases hq;rw[aoF] at h;simp only[MS] at h;rw[Nat.add_zero,Nat.pow_succ,Nat.mul_comm];exact⟨Hy h.1,Hy h.2.1⟩
 |a::l,k,h,j+1,q,hq=>by
  rw[aoF] at h;simp only[MS] at h;have:=aoG l (k+1) (by rw[Nat.pow_succ,Nat.mul_comm];exact h.2.2) j q (by simpa using hq)
  rwa [show k+1+j=k+(j+1) by omega] at this
def axD(a:Nat×Nat)(h:a=(6364136223846793005,1442695040888963407))(x:Nat):it ada (2 ^ 0) x=(a.1 * x+a.2) % air:=by rw[h,Nat.pow_zero,it,it,ada]
def aBm:pwT.head? =some (6364136223846793005,1442695040888963407):=by kernel_rfl
def aJJ(k:Nat)(hk:k<64):∃q:Nat×Nat,q.1 % 2 ^(k+1)=1/\q.2 % 2 ^(k+1)=2 ^ k/\∀x,it ada (2 ^ k) x=(q.1 * x+q.2) % air:=by
 have h1:=axC;have h2:=aGn;have h3:=aGo;have h4:=aBm;generalize pwT=l at h1 h2 h3 h4;cases hq:l[k]? with
 |none=>rw[List.getElem?_eq_none_iff] at hq;omega
 |some q=>
  obtain⟨ha,hc⟩:=aoG l 0 h2 k q hq;rw[Nat.zero_add] at ha hc;cases l with
  |nil=>simp at h4
  |cons a l=>simp only[List.head?_cons,je] at h4;have hs:=at1 l 0 a h1 (axD a h4) k q hq;rw[Nat.zero_add] at hs;exact⟨q,ha,hc,hs⟩
def aoH:∀(k:Nat),k<=64->∀x,∃t,it ada t x % 2 ^ k=0
 |0,_,x=>⟨0,Nat.mod_one _⟩
 |k+1,hk,x=>by
  obtain⟨t,ht⟩:=aoH k ak x;have hm:it ada t x % 2 ^(k+1)=2 ^ k * (it ada t x / 2 ^ k % 2):=by rw[Nat.pow_succ,Nat.mod_mul,ht,Nat.zero_add]
  have h2:it ada t x / 2 ^ k % 2=0\/it ada t x / 2 ^ k % 2=1:=ak;rcases h2 with h2|h2
  ·exact⟨t,by rw[hm,h2,Nat.mul_zero]⟩
  ·rw[h2,Nat.mul_one] at hm;refine⟨t+2 ^ k, ?_⟩;obtain⟨q,ha,hc,hs⟩:=aJJ k ak;have hd:2 ^(k+1)∣air:=by
    have:air=2 ^ 64:=by decide
    rw[this];exact Nat.pow_dvd_pow 2 hk
   rw[aiq,hs,Nat.mod_mod_of_dvd _ hd,Nat.add_mod,Nat.mul_mod,ha,hm,hc,Nat.one_mul];have hlt:2 ^ k<2 ^(k+1):=by rw[Nat.pow_succ];have:=Nat.two_pow_pos k;omega
   rw[Nat.mod_eq_of_lt hlt,Nat.pow_succ,Nat.mul_two,Nat.mod_self]
def nxH(h:Int):Int:=i64.wrap (i64.wrap (h * 6364136223846793005)+1442695040888963407)
def asR(h:Int):Nat:=(h % 18446744073709551616).toNat
def axE(h:Int): -9223372036854775808<=nxH h/\nxH h<=9223372036854775807:=by unfold nxH;rw[IntKind.wrap_i64,IntKind.wrap_i64];omega
def aoI(z:Int):i64.wrap z % 18446744073709551616=z % 18446744073709551616:=by rw[IntKind.wrap_i64];omega
def aBn(a c m h:Int)(hm:0<m):(a * ((h % m).toNat:Int)+c) % m=(h * a+c) % m:=by rw[Int.toNat_of_nonneg (Int.emod_nonneg h ak),Int.add_emod,Int.mul_emod,Int.emod_emod_of_dvd h (Int.dvd_refl m),<-Int.mul_emod,<-Int.add_emod,Int.mul_comm]
def aGp(h:Int):asR (nxH h)=ada (asR h):=by
 have h1:nxH h % 18446744073709551616=(h * 6364136223846793005+1442695040888963407) % 18446744073709551616:=by unfold nxH;rw[aoI,Int.add_emod,aoI,<-Int.add_emod]
 have h2:=aBn 6364136223846793005 1442695040888963407 18446744073709551616 h (by decide);unfold asR ada air;rw[h1,<-h2];generalize (h % 18446744073709551616).toNat=x;have h3:((6364136223846793005 * (x:Int)+1442695040888963407) % 18446744073709551616)=(((6364136223846793005 * x+1442695040888963407) % 18446744073709551616:Nat):Int):=by rw[Int.natCast_emod,Int.natCast_add,Int.natCast_mul];rfl
 rw[h3,Xm]
def axF:∀(n:Nat) (h:Int),asR (it nxH n h)=it ada n (asR h)
 |0,_=>by rw[asQ,asQ]
 |n+1,h=>by rw[ag5,ag5,axF n,aGp]
def aBo(h:Int):∃t,it nxH t h=0:=by
 obtain⟨t,ht⟩:=aoH 64 (Nat.le_refl _) (asR (nxH h));refine⟨t+1, ?_⟩;rw[ag5];rw[<-axF t] at ht;have hr: -9223372036854775808<=it nxH t (nxH h)/\it nxH t (nxH h)<=9223372036854775807:=by
  cases t with
  |zero=>exact axE h
  |succ t=>rw[anj];exact axE _
 have e:(2:Nat) ^ 64=18446744073709551616:=by decide
 rw[e] at ht;unfold asR at ht;omega
def aen(x:Int):Nat:=(BitVec.ofInt 64 x &&& BitVec.ofInt 64 255).toNat
def asT(h:Int):Int:=i64.wrap (↑(BitVec.ofInt 64 (h.fdiv 8589934592) ^^^ BitVec.ofInt 64 (h.fdiv 35184372088832)).toNat:Int)
def aBp(x:Int):aen x<256:=by
 unfold aen;rw[BitVec.toNat_and];have:=@Nat.and_le_right (BitVec.ofInt 64 x).toNat (BitVec.ofInt 64 255).toNat;have e:(BitVec.ofInt 64 255).toNat=255:=by decide
 omega
structure Cu where
 code:List UInt8
 i:Nat
 h:Int
def Cu.nx(s:Cu):Cu:=⟨s.code,if s.i<s.code.length then s.i+1 else s.i,nxH s.h⟩
def Cu.byte(s:Cu):Nat:=match s.code[s.i]? with
 |some b=>aen (i64.wrap ((aen (asT (nxH s.h)):Int)+b.toNat))
 |none=>aen (asT (nxH s.h))
def Cu.st(s:Cu)(p:Nat):Cu:=it Cu.nx p s
def Cu.g(s:Cu)(p:Nat):Nat:=(s.st p).byte
def Cu.st_succ(s:Cu)(p:Nat):s.st (p+1)=(s.st p).nx:=anj _ _ _
def Cu.aoJ(s:Cu)(p q:Nat):(s.st p).st q=s.st (p+q):=(aiq _ _ _ _).symm
def Cu.N7(s:Cu):∀p,(s.st p).code=s.code
 |0=>rfl
 |p+1=>by rw[Cu.st_succ];exact Cu.N7 s p
def Cu.axG(s:Cu)(h:s.i<=s.code.length):∀p,(s.st p).i=min (s.i+p) s.code.length
 |0=>by show s.i=_;omega
 |p+1=>by rw[Cu.st_succ];show(if(s.st p).i<(s.st p).code.length then(s.st p).i+1 else(s.st p).i)=_;rw[Cu.N7,Cu.axG s h p];split<;>omega
def Cu.aGq(s:Cu):∀p,(s.st p).h=it nxH p s.h
 |0=>rfl
 |p+1=>by rw[Cu.st_succ,anj,<-Cu.aGq s p];rfl
def Cu.zero(c:List UInt8):Cu:=⟨c,c.length,0⟩
def Cu.aBq(s:Cu)(h:s.i<=s.code.length):∃t,s.st t=Cu.zero s.code:=by
 obtain⟨t,ht⟩:=aBo (s.st (s.code.length - s.i)).h;refine⟨s.code.length - s.i+t, ?_⟩;rw[<-Cu.aoJ];have h1:((s.st (s.code.length - s.i)).st t).h=0:=by rw[Cu.aGq];exact ht
 have h2:((s.st (s.code.length - s.i)).st t).i=s.code.length:=by rw[Cu.aoJ,Cu.axG s h];omega
 have h3:((s.st (s.code.length - s.i)).st t).code=s.code:=by rw[Cu.N7,Cu.N7]
 cases hs:(s.st (s.code.length - s.i)).st t with
 |mk c i h=>rw[hs] at h1 h2 h3;simp only at h1 h2 h3;subst h1 h2 h3;rfl
def afD(p:Nat):Nat:=aen (asT (nxH (it nxH p 0)))
def Cu.aGr(c:List UInt8)(p:Nat):(Cu.zero c).g p=afD p:=by
 unfold Cu.g Cu.byte afD;have h1:((Cu.zero c).st p).i=c.length:=by rw[Cu.axG _ (Nat.le_refl _)];show min (c.length+p) c.length=_;omega
 have h2:((Cu.zero c).st p).code=c:=Cu.N7 _ _;have h3:((Cu.zero c).st p).h=it nxH p 0:=Cu.aGq _ _;rw[h1,h2,h3,List.getElem?_eq_none (Nat.le_refl _)]
def avH(f:(Nat->Nat)->Nat->Nat×Nat)(lim L:Nat)(P:Cu->Prop)
  (hstep:∀(s:Cu) (p:Nat),s.i<=s.code.length->p<(f s.g p).2/\(f s.g p).2<=p+L/\((f s.g p).1<=lim->P (s.st p))/\(P (s.st (f s.g p).2)->P (s.st p)))
  (hsmall:∀j,j<=L->(f afD j).1<=lim):∀s:Cu,s.i<=s.code.length->P s:=by
 have key:∀(n t:Nat) (s:Cu),t<n->s.i<=s.code.length->s.st t=Cu.zero s.code->P s:=by
  intro n;induction n with
  |zero=>intro t s h;omega
  |succ n ih=>
   intro t s ht hi hz;obtain⟨h1,h2,_,h4⟩:=hstep s 0 hi;refine h4 ?_;have hi':(s.st (f s.g 0).2).i<=(s.st (f s.g 0).2).code.length:=by rw[Cu.N7,Cu.axG s hi];omega
   by_cases hle:(f s.g 0).2<=t
   ·refine ih (t - (f s.g 0).2) _ ak hi' ?_;rw[Cu.aoJ,Cu.N7,show(f s.g 0).2+(t - (f s.g 0).2)=t by omega];exact hz
   ·have e:s.st (f s.g 0).2=(Cu.zero s.code).st ((f s.g 0).2 - t):=by rw[<-hz,Cu.aoJ];congr 1;omega
    rw[e];refine(hstep (Cu.zero s.code) _ (Nat.le_refl _)).2.2.1 ?_;have hg:(Cu.zero s.code).g=afD:=funext (Cu.aGr _);rw[hg];exact hsmall _ ak
 intro s hi;obtain⟨t,ht⟩:=s.aBq hi;exact key (t+1) t s ak hi ht
end Go.Vm
namespace Go.Vm
open Go
open Go.IntKind (i64)
mutual
def tyD(P:Program):Nat->TypeId->Row->Prop
 |0,_,_=>False
 |n+1,t,row=>match P.underlying t with
  |some .bool=>∃b,row=[.bool b]
  |some (.int k)=>∃x,row=[.int k x]/\(Lit.int k x).wf=true
  |some .string=>∃s,row=[.str s]/\s.length<=maxLen
  |some (.slice e)=>∃rows,row=[.sl false (qO P e) rows]/\rows.length<=maxLen/\∀r,r∈rows->tyD P n e r
  |some (.struct fs)=>axH P n fs.toList row
  |_=>False
def axH(P:Program):Nat->List Field->Row->Prop
 |_,[],row=>row=[]
 |n,f::fs,row=>∃r1 r2,row=r1++r2/\tyD P n f.type r1/\axH P n fs r2
end
def aeo(P:Program):Nat->List Field->Option Nat
 |o,[]=>some o
 |o,f::fs=>bif Nat.beq f.offset o then aeo P (o+P.cellsOf f.type) fs else none
def afE(P:Program):Nat->TypeId->Bool
 |0,_=>false
 |n+1,t=>match P.underlying t with
  |some .bool|some (.int _)|some .string=>true
  |some (.slice e)=>afE P n e && Nat.ble 1 (qO P e)
  |some (.struct fs)=>(match aeo P 0 fs.toList with|some o=>Nat.beq o (P.cellsOf t)|none=>false) && fs.toList.all λf=>afE P n f.type
  |_=>false
def avI(P:Program)(t:TypeId):qO P t=P.cellsOf t:=by unfold qO Program.cellsOf;cases P.info? t<;>rfl
def ais{α β:Type}{f:α->Option β}:∀{l:List α} {r:List β},l.mapM f=some r->r.length=l.length/\∀(i:Nat) x,l[i]? =some x->∃y,f x=some y/\r[i]? =some y
 |[],r,h=>by simp at h;subst h;exact⟨rfl,λi x h=>by simp at h⟩
 |a::l,r,h=>by
  rw[List.mapM_cons] at h;simp only[Option.bind_eq_bind,Option.bind_eq_some_iff,Option.pure_def,je] at h;obtain⟨y,h1,r',h2,rfl⟩:=h;obtain⟨h3,h4⟩:=ais h2;refine⟨by simp[h3],λi x hx=> ?_⟩;cases i with
  |zero=>simp only[List.getElem?_cons_zero,je] at hx;subst hx;exact⟨y,h1,rfl⟩
  |succ i=>simpa using h4 i x (by simpa using hx)
def at6{α:Type}{p:Nat->α->Prop}:∀(n k:Nat),(∀i,i<n->∃x,p (k+i) x)->∃l:List α,l.length=n/\∀(i:Nat) x,l[i]? =some x->p (k+i) x
 |0,_,_=>⟨[],rfl,λi x h=>by simp at h⟩
 |n+1,k,h=>by
  obtain⟨x,hx⟩:=h 0 ak;obtain⟨l,h1,h2⟩:=at6 n (k+1) (λi hi=>by
   have:=h (i+1) ak
   rwa [show k+(i+1)=k+1+i by omega] at this)
  refine⟨x::l,by simp[h1],λi y hy=> ?_⟩;cases i with
  |zero=>simp only[List.getElem?_cons_zero,je] at hy;subst hy;exact hx
  |succ i=>
   have:=h2 i y (by simpa using hy)
   rwa [show k+1+i=k+(i+1) by omega] at this
def aoK{h:View}:∀(r:Row) (b o:Nat) (cs:List Value),(∀(j:Nat) v,cs[j]? =some v->h b (o+j)=some v)->jq h r cs->yX h r b o
 |[],_,_,_,_,_=>trivial
 |x::r,b,o,cs,hc,⟨v,cs',e,h1,h2⟩=>by
  subst e;exact⟨⟨v,by simpa using hc 0 v rfl,h1⟩,aoK r b (o+1) cs' (λj u hj=>by
   have:=hc (j+1) u (by simpa using hj)
   rwa [show o+(j+1)=o+1+j by omega] at this) h2⟩
def alM{h:View}{s b:Nat}:∀(rs:List Row) (o:Nat),(∀(i:Nat) r,rs[i]? =some r->r.length=s/\yX h r b (o+i * s))->oV h s rs b o
 |[],_,_=>trivial
 |r::rs,o,hr=>by
  obtain⟨h1,h2⟩:=hr 0 r rfl;refine⟨h1,by simpa using h2,alM rs (o+s) λi q hq=> ?_⟩;obtain⟨h3,h4⟩:=hr (i+1) q (by simpa using hq);refine⟨h3, ?_⟩
  rwa [show o+(i+1) * s=o+s+i * s by rw[Nat.succ_mul];omega] at h4
def afF{h:View}:∀{r1 r2:Row} {c1 c2:List Value},jq h r1 c1->r1.length=c1.length->jq h r2 c2->jq h (r1++r2) (c1++c2)
 |[],r2,c1,c2,_,hl,h2=>by have:c1=[]:=List.length_eq_zero_iff.1 hl.symm;subst this;exact h2
 |x::r1,r2,_,c2,⟨v,cs',e,h1,h3⟩,hl,h2=>by subst e;exact⟨v,cs'++c2,rfl,h1,afF h3 (by simpa using hl) h2⟩
def ait{w:World}{base:Nat}{a:Addr}{n:Nat}{cs:List Value}(h:w.cells? base a n=some cs):cs.length=n/\∀j,j<n->∃v,w.cell? (a.add j)=some v/\cs[j]? =some v:=by
 unfold World.cells? at h;split at h
 ·obtain⟨h1,h2⟩:=ais h;rw[List.length_range] at h1;refine⟨h1,λj hj=> ?_⟩;exact h2 j j (by simp[hj])
 ·cases h
section
variable {H:Type} {enc:TypeId×Value->H} {P:Program} {w:World} {base:Nat} {spare:Nat->Bool} {held:Bool}
def alN{n:Nat}(ih:∀(t:TypeId) (cs:List Value) (d:DataW H) (ps:List MemPlace),afE P n t=true->DataW.trod enc P w base spare held n t cs=some (d,ps)->∃row:Row,row.length=cs.length/\tyD P n t row/\jq (full w) row cs):
  ∀(fs:List Field) (o tot:Nat) (cs:List Value) (xs:List (DataW H×List MemPlace)),aeo P o fs=some tot->(fs.all λf=>afE P n f.type)=true->tot<=cs.length->
   fs.mapM (λf=>DataW.trod enc P w base spare held n f.type ((cs.drop f.offset).take (P.cellsOf f.type)))=some xs->
   ∃row:Row,row.length=tot - o/\o<=tot/\axH P n fs row/\jq (full w) row ((cs.drop o).take (tot - o))
 |[],o,tot,cs,xs,hc,_,_,_=>by simp only[aeo,je] at hc;subst hc;exact⟨[],by simp,Nat.le_refl _,by simp[axH],trivial⟩
 |f::fs,o,tot,cs,xs,hc,hg,hle,hm=>by
  simp only[aeo] at hc;cases hb:Nat.beq f.offset o with
  |false=>simp[hb] at hc
  |true=>
   simp only[hb,aK] at hc;have hbo:=Hy hb;simp only[List.all_cons,MS] at hg;rw[List.mapM_cons] at hm;simp only[Option.bind_eq_bind,Option.bind_eq_some_iff,Option.pure_def,je] at hm;obtain⟨y,h1,ys,h2,rfl⟩:=hm;obtain⟨aJK,l2,le2,t2,s2⟩:=alN ih fs _ tot cs ys hc hg.2 hle h2;obtain⟨aBr,l1,t1,s1⟩:=ih _ _ y.1 y.2 hg.1 h1;rw[hbo] at l1 s1;have hl:((cs.drop o).take (P.cellsOf f.type)).length=P.cellsOf f.type:=by simp;omega
   rw[hl] at l1;refine⟨aBr++aJK,by simp[l1,l2];omega,ak,by simp only[axH];exact⟨aBr,aJK,rfl,t1,t2⟩, ?_⟩;have e:(cs.drop o).take (tot - o)=(cs.drop o).take (P.cellsOf f.type)++(cs.drop (o+P.cellsOf f.type)).take (tot - (o+P.cellsOf f.type)):=by rw[<-List.drop_drop,show tot - o=P.cellsOf f.type+(tot - (o+P.cellsOf f.type)) by omega,List.take_add]
   rw[e];exact afF s1 (by rw[l1,hl]) s2
def ank:∀(n:Nat) (t:TypeId) (cs:List Value) (d:DataW H) (ps:List MemPlace),afE P n t=true->DataW.trod enc P w base spare held n t cs=some (d,ps)->
  ∃row:Row,row.length=cs.length/\tyD P n t row/\jq (full w) row cs
 |0,t,cs,d,ps,hg,_=>by simp[afE] at hg
 |n+1,t,cs,d,ps,hg,h=>by
  simp only[afE] at hg;unfold DataW.trod at h;cases hu:P.underlying t with
  |none=>simp[hu] at hg
  |some D=>
   rw[hu] at hg h;cases D with
   |bool=>split at h<;>simp_all;rename_i b;exact⟨[.bool b],by simp,by simp[tyD,hu],_,_,rfl,rfl,trivial⟩
   |int k=>split at h<;>simp_all;rename_i k' x _;obtain⟨⟨rfl,hw⟩,_⟩:=h;refine⟨[.int _ x],by simp, ?_,_,_,rfl,rfl,trivial⟩;simp only[tyD,hu];exact⟨x,rfl,hw⟩
   |string=>
    split at h<;>simp_all;rename_i s;refine⟨[.str s.data.toList],by simp, ?_,_,_,rfl, ?_,trivial⟩
    ·simp only[tyD,hu];refine⟨_,rfl, ?_⟩;simpa using h.1
    ·simp[ro]
   |slice e=>
    simp only[MS] at hg;split at h
    all_goals first
     |(rename_i e1;cases e1;done)
     |(cases h;done)
     |(exfalso;rename_i h21 _ _ _ _ _ _ _ _ _ _ _ _ _ _ _ _ _ _ _;exact h21 _ rfl)
     |skip
    case h_7=>
     rename_i e1;refine⟨[.sl false (qO P e) []],rfl, ?_,_,_,rfl, ?_,trivial⟩
     ·simp only[tyD,hu];exact⟨[],rfl,by simp,λr hr=>by simp at hr⟩
     ·simp only[ro];exact⟨none,0,rfl,by simp,λhn=>absurd rfl hn⟩
    case h_8=>
     rename_i _ e' a len cap e1;cases e1;split at h
     ·rename_i hb;rw[Option.bind_eq_some_iff] at h;obtain⟨elems,hel,_⟩:=h;obtain⟨hl,hget⟩:=ais hel;rw[List.length_range] at hl;have hs:=avI P e;have hpos:1<=P.cellsOf e:=by rw[<-hs];exact Nat.le_of_ble_eq_true hg.2
      have hrow:∀i,i<len->∃r:Row,tyD P n e r/\r.length=qO P e/\a.spot=none/\yX (full w) r a.block (a.off+i * qO P e):=by
       intro i hi;obtain⟨y,hy,_⟩:=hget i i (by simp[hi]);rw[Option.bind_eq_some_iff] at hy;obtain⟨cs,hcs,hy⟩:=hy;obtain⟨row,l1,t1,s1⟩:=ank n e cs y.1 y.2 hg.1 hy;obtain⟨hcl,hcg⟩:=ait hcs;refine⟨row,t1,by rw[l1,hcl,hs], ?_, ?_⟩
       ·obtain⟨y0,hy0,_⟩:=hget 0 0 (List.getElem?_range ak);rw[Option.bind_eq_some_iff] at hy0;obtain⟨cs0,hcs0,_⟩:=hy0;obtain⟨u,hu1,_⟩:=(ait hcs0).2 0 ak;simpa[Addr.add] using World.cell?_spot hu1
       ·refine aoK row a.block _ cs (λj v hj=> ?_) s1;have hjn:j<P.cellsOf e:=by have:=(PU.1 hj).1;omega
        obtain⟨u,hu1,hu2⟩:=hcg j hjn;rw[hu2] at hj;cases hj;have hsp:=World.cell?_spot hu1;have e2:((a.add (i * P.cellsOf e)).add j)=⟨a.block,a.off+i * qO P e+j,none⟩:=by
         rw[hs];generalize i * P.cellsOf e=q at hsp|-;obtain⟨ab,ao,as_⟩:=a;rcases Nat.eq_zero_or_pos q with h1|h1<;>rcases Nat.eq_zero_or_pos j with h2|h2
         ·subst h1;subst h2;have:as_=none:=hsp;subst this;rfl
         ·subst h1;simp[Addr.add,show j≠0 by omega]
         ·subst h2;simp[Addr.add,show q≠0 by omega]
         ·simp[Addr.add,show q≠0 by omega,show j≠0 by omega]
        rw[e2] at hu1;exact hu1
      obtain⟨rows,r1,r2⟩:=at6 (p:=λi (r:Row)=>tyD P n e r/\r.length=qO P e/\a.spot=none/\yX (full w) r a.block (a.off+i * qO P e)) len 0 (λi hi=>by rw[Nat.zero_add];exact hrow i hi);refine⟨[.sl false (qO P e) rows],rfl, ?_,_,_,rfl, ?_,trivial⟩
      ·simp only[tyD,hu];refine⟨rows,rfl,ak,λr hr=> ?_⟩;obtain⟨i,hi⟩:=List.getElem?_of_mem hr;exact(r2 i r hi).1
      ·simp only[ro];refine⟨some a,cap,by rw[r1],ak,λhn=> ?_⟩;have h0:∃r0,rows[0]? =some r0:=by
        cases rows with
        |nil=>exact absurd rfl hn
        |cons r0 _=>exact⟨r0,rfl⟩
       obtain⟨r0,h0⟩:=h0;have hsp:=(r2 0 r0 h0).2.2.1;refine⟨a.block,a.off, ?_,alM rows a.off λi r hr=> ?_⟩
       ·obtain⟨ab,ao,as_⟩:=a;simp only at hsp;subst hsp;rfl
       ·obtain⟨_,h2,_,h4⟩:=r2 i r hr;rw[Nat.zero_add] at h4;exact⟨h2,h4⟩
     ·cases h
   |struct fs=>
    simp only[MS] at hg;split at h
    all_goals first
     |(rename_i e1;cases e1;done)
     |(cases h;done)
     |(exfalso;rename_i h21 _ _ _ _ _ _ _ _ _ _ _ _ _ _ _ _ _ _ _;exact h21 _ rfl)
     |skip
    case h_9=>
     rename_i _ fs' cs' e1;cases e1;split at h
     ·rename_i hcl;rw[Option.map_eq_some_iff] at h;obtain⟨xs,hxs,_⟩:=h;cases hc:aeo P 0 fs.toList with
      |none=>simp[hc] at hg
      |some tot=>simp only[hc] at hg;have htot:=Hy hg.1;obtain⟨row,l1,_,t1,s1⟩:=alN (λt cs d ps hg h=>ank n t cs d ps hg h) fs.toList 0 tot _ xs hc hg.2 ak hxs;refine⟨row,by rw[l1];omega,by simp only[tyD,hu];exact t1, ?_⟩;simpa[htot,<-hcl] using s1
     ·cases h
   |_=>simp at hg
end
end Go.Vm
namespace Go.Vm
open Go Go.RowKit
open Go.IntKind (i64)
def alO{A:Adv}{f:Nat}(hm:A.move f=[]){μ:Nat->Value}{m:Mem}{H:Heap}{h:View}:∀{vs:List V} {gs:List Value} (i:Nat),dn μ m h vs gs->VK A f μ m H h i vs gs []
 |[],gs,i,q=>by simp only[dn] at q;simp only[VK];exact⟨q,trivial⟩
 |v::vs,gs,i,q=>by
  simp only[dn] at q;obtain⟨g,gs',rfl,h1,h2⟩:=q;simp only[VK];refine⟨g,gs',[],[],rfl,rfl, ?_,alO hm (i+1) h2⟩;split
  ·rename_i hmo;simp only[JO,hm,mem?,bn] at hmo;cases hr3:mem? i (A.look f)<;>simp[hr3] at hmo
  ·exact⟨rfl,h1⟩
def avJ{X:Ctx}(hp:am3 X){f:Nat}{fn:Func}{t:TypeId}{args:List V}{gargs:List Value}{w:World}(hf:X.P.funcs[f]? =some fn)(hb:fn.body.isSome=true)(hr:fn.resultTypes=#[t])(ht:Us X.P t=false)(hpt:ahp X.P t=none)(hm:X.UN.move f=[])(hgl:ahy X (full w))
  (hs:dn (impμ []) [] (full w) args gargs) (h:call X f args []=some ([[.bool true]],[])):
  Calls X.P f gargs.toArray w λe w'=>e=.returned (.bool true)/\Below w.heap.size w w':=by
 have hG:Given X 0 (λ_=>True) w f args [] gargs [] [] []:=by
  have hv:(full w).le (view w (λ_=>True) (· ∈([]:List Nat)++[])):=by intro b o v h;exact agX trivial (by simp) h
  refine⟨by simp,by simp,λ_ _=>trivial,Nat.zero_le _, ?_,⟨rfl,rfl⟩,Sj hv hgl⟩;exact XK (sH _ _) hv (λ_ _=>rfl) (alO (H:=dU w) hm 0 hs)
 refine(aBf hp f fn args [] [[.bool true]] [] hf hb h 0 (λ_=>True) w gargs [] [] [] hG).mono ?_;rintro e w' ⟨gs,M1,M2,rfl,D⟩;have hres:=D.res;rw[hr] at hres;simp only[WT] at hres;obtain⟨row,rows',g,gs',N1,N2,e1,e2,_,hv,e3,e4,_⟩:=hres;rw[P8 hpt] at hv;obtain⟨cs,hv,ho,hl⟩:=hv;simp only[List.cons.injEq] at e1;obtain⟨rfl,rfl⟩:=e1;subst e4;subst e2;simp only[valOf,ht,Bool.false_eq_true,if_false] at hv;subst hv;simp only[jE,ow] at ho;obtain⟨v,cs',N1,N2,e5,_,⟨rfl,_⟩,_⟩:=ho;simp only[List.cons.injEq] at e5;obtain⟨rfl,_⟩:=e5;refine⟨rfl,⟨D.keep.os,D.keep.tape,D.keep.output,D.keep.size,λk hk=>D.keep.block k hk (by simp)⟩⟩
section
variable {H:Type} {enc:TypeId×Value->H} {P:Program} {w:World} {base:Nat} {spare:Nat->Bool} {held:Bool} {t:TypeId} {v:Value} {d:DataW H} {ps:List MemPlace}
def aBs{μ:Nat->Value}{m:Mem}(h:DataW.Trod enc P w base spare held t v d ps)(hg:∀n,afE P (n+8) t=true)(hv:v.cells.toList=[v]):
  ∃n x,tyD P (n+8) t [x]/\aU μ m (full w) (.d x) v:=by
 obtain⟨n,hn⟩:=h;have hn':DataW.trod enc P w base spare held (n+8) t v.cells.toList=some (d,ps):=DataW.trod_le (Nat.le_add_right n 8) hn;obtain⟨row,hl,ht,hs⟩:=ank (n+8) t _ d ps (hg n) hn';rw[hv] at hl hs;cases row with
 |nil=>simp at hl
 |cons x r=>
  cases r with
  |cons _ _=>simp at hl
  |nil=>obtain⟨u,cs',e,h1,_⟩:=hs;simp only[List.cons.injEq] at e;obtain⟨rfl,_⟩:=e;exact⟨_,x,ht,by simpa[aU] using h1⟩
end
section
variable {P:Program} {n:Nat} {t:TypeId} {row:Row}
def aBt{k:IntKind}(hu:P.underlying t=some (.int k))(h:tyD P (n+1) t row):∃x,row=[.int k x]/\(Lit.int k x).wf=true:=by simpa[tyD,hu] using h
def aGs{e:TypeId}(hu:P.underlying t=some (.slice e))(h:tyD P (n+1) t row):∃rows,row=[.sl false (qO P e) rows]/\rows.length<=maxLen/\∀r,r∈rows->tyD P n e r:=by simpa[tyD,hu] using h
def aoL{α:Type}{f:α->Row}{p:α->Prop}:∀{rows:List Row},(∀r,r∈rows->∃x,r=f x/\p x)->∃l:List α,rows=l.map f/\∀x,x∈l->p x
 |[],_=>⟨[],rfl,λx h=>by simp at h⟩
 |r::rows,h=>by
  obtain⟨x,hx,hp⟩:=h r (by simp);obtain⟨l,hl,hq⟩:=aoL (rows:=rows) (λr hr=>h r (by simp[hr]));refine⟨x::l,by simp[hx,hl],λy hy=> ?_⟩;rcases List.mem_cons.1 hy with rfl|hy
  ·exact hp
  ·exact hq y hy
end
end Go.Vm
namespace Go.Vm
open Go
open Go.IntKind (i64)
section
variable {H:Type} {enc:TypeId×Value->H}
def aiu{a:Assume}{C:Checked}{os:Os}{f:FuncId}{fn:Func}{s:ChangeSpec}{conds:List PathCond}{apart fresh handsOn again:Bool}{X:World->Array Value->Prop}
  (hX:∀(w w':World) (args:Array Value),w.heap=w'.heap->X w args->X w' args)
  (own:ownKnob C.prog.godebug=none) (started:os.Started) (noInit:C.prog.inits.idxOf? f=none) (hfn:C.prog.funcs[f]? =some fn)
  (witness:∃(w:World) (tape:Tape) (i:Input),w.os=os/\(w.forCall tape i).Shaped C.prog/\i.vars=[]/\Input.okWide C.prog (w.forCall tape i) .any w.heap.size f i/\
   ((s.pre enc C.prog fn conds apart (w.forCall tape i).memory i.args/\X (w.forCall tape i).memory i.args)/\sizedMet enc C.prog fn (OpenSpec.ofChange s) apart (w.forCall tape i).memory i.args)/\a.holds C.prog (lone (Frame.enter C.prog f i.args .normal) [] (w.forCall tape i)))
  (contract:∀(W:World) (base:Nat) (args:Array Value) (ds gs:List (DataW H)) (before:List MemPlace),
   (∀(j:Nat) t v,fn.params[j]? =some t->args[j]? =some v->Value.okWide C.prog W .any base t v)->
   DataW.Whole enc C.prog fn.params.toList s.vars apart W args.toList ds gs before->X W args->W.ShapedOpen C.prog->
   Calls C.prog f args W λe W'=>∃v,e=.returned v/\s.post enc C.prog fn apart fresh handsOn again W args v W'):
  ReturnsInHanded a C os f .any (λw args=>(s.pre enc C.prog fn conds apart w args/\X w args)/\sizedMet enc C.prog fn (OpenSpec.ofChange s) apart w args) (s.post enc C.prog fn apart fresh handsOn again):=by
 refine returnsInHanded_of_calls own started noInit witness ?_;rintro w tape i _ shp _ ⟨_,_,_,g,hg,_,_,_,_,val⟩ ⟨⟨⟨ds,gs,before,whole,_⟩,hx⟩,_⟩ _;have e:g=fn:=Option.some.inj (hg.symm.trans hfn);rw[e] at val;have c:=contract (w.forCall tape i) w.heap.size i.args ds gs before val (DataW.Whole.of_heap (w':=w.forCall tape i) (by rfl) whole) (hX _ _ _ (by rfl) hx) shp;refine c.mono ?_;rintro e W' ⟨v,rfl,hp⟩;exact ChangeSpec.post_blind hp
end
def aYR:DataW Unit->Value
 | .lit (.int k n)=> .int k n
 | .lit (.bool b)=> .bool b
 | .lit (.string b)=> .string ⟨b.toArray⟩
 |_=> .tuple #[]
def alP:Nat->DataW Unit->List Value
 |0,_=>[]
 |n+1,d=>match d with
  | .agg ds=>ds.flatMap (alP n)
  |d=>[aYR d]
def aJL(h:Array Obj)(g:Nat)(d:DataW Unit):Array Obj:=h.modify g λo=>match o with
 | .cells _ t fr=> .cells (alP 4 d).toArray t fr
 |o=>o
def layAll(h:Array Obj):List (Nat×DataW Unit)->Array Obj
 |[]=>h
 |(g,d)::l=>layAll (aJL h g d) l
noncomputable def laidWorld(P:Program)(l:List (Nat×DataW Unit))(os:Os):World:=
 let w:=World.holding P os ⟨#[],#[],[]⟩
 {w with heap:=layAll w.heap l}
def aoM{h:View}{g:Nat}:∀(row:Row) (o:Nat),(∀(j:Nat) x,row[j]? =some x->∃v,h g (o+j)=some v/\ro h x v)->yX h row g o
 |[],_,_=>trivial
 |x::row,o,q=>⟨by simpa using q 0 x rfl,aoM row (o+1) λj y hj=>by
   have:=q (j+1) y (by simpa using hj)
   rwa [show o+(j+1)=o+1+j by omega] at this⟩
def aep{P:Program}{w:World}{nm:String}{g t e n fuel:Nat}{cs:Array Value}{ss:List (List UInt8)}{p:List MemPlace}(hu:P.underlying t=some (.array n e))(he:P.underlying e=some .string)(hc:P.cellsOf e=1)
  (hg:P.globalNamed nm=some g) (hv:w.var? P nm=some cs) (h:DataW.trod (λ_=>()) P w 0 (λ_=>true) false fuel t cs.toList=some (.agg (ss.map λs=> .lit (.string s)),p)):yX (full w) (ss.map D.str) g 0:=by
 obtain⟨xs,m,rfl,hx,hcl,hxl,hel⟩:=DataW.trod_array hu h;simp only[lN,DataW.agg.injEq] at hx;refine aoM _ 0 λj x hj=> ?_
 rw[List.getElem?_map] at hj;cases hs:ss[j]? with
 |none=>rw[hs] at hj;cases hj
 |some s=>
  rw[hs] at hj;cases hj;have hjl:j<ss.length:=(PU.1 hs).1;have hlen:ss.length=xs.length:=by have:=congrArg List.length hx.1;simpa using this
  obtain⟨y,hy⟩:∃y,xs[j]? =some y:=⟨xs[j]'ak,by simp⟩
  have hh:=hel j ak;rw[hy] at hh;obtain⟨b,hb1,hb2,_⟩:=DataW.trod_string he hh;have hyx:y.1=.lit (.string s):=by have:=congrArg (λl=>l[j]?) hx.1;simp only[List.getElem?_map,hs,hy,O9,je] at this;exact this.symm
  rw[hb2] at hyx;simp only[DataW.lit.injEq,Lit.string.injEq] at hyx;rw[hc,Nat.mul_one] at hb1;have hcell:cs[j]? =some (.string b):=by have:=congrArg (λl=>l[0]?) hb1;simpa using this
  refine⟨.string b, ?_, ?_⟩
  ·have:=World.var?_cell hg hv j;rw[Nat.zero_add];show w.cell? ⟨g,j,none⟩=_;rw[this];exact hcell
  ·simp only[ro];rw[<-hyx]
end Go.Vm
