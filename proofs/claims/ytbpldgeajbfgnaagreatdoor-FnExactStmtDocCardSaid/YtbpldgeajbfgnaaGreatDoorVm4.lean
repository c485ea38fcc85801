import Derived.Test.YtbpldgeajbfgnaaGreatDoorVm3
import Derived.IntWalk
import Derived.ChangeShapes
import Derived.ChangeOld
import Derived.Carry
import Derived.WideShapes
import Derived.ProofKit
import Derived.Handed
import Derived.LaidLaws
import Derived.LaidHandle
import Derived.Shelf.Vars
import Derived.OpenShut
import Derived.ChangeArms
import Derived.LaidMore
set_option linter.unusedVariables false
set_option linter.unusedSimpArgs false
namespace Go.Vm
open Go
def KLe(K K':jo):Prop:=∀f args cells r,K f args cells=some r→K' f args cells=some r
theorem KLe.refl(K:jo):KLe K K:=fun _ _ _ _ h=>h
theorem KLe.trans{K1 K2 K3:jo}(h:KLe K1 K2)(k:KLe K2 K3):KLe K1 K3:=fun f a c r q=>k f a c r (h f a c r q)
def jH{α:Type}(A:jo→Acc α):Prop:=∀K K',KLe K K'→∀m l r,(A K).run m l=some r→(A K').run m l=some r
theorem jH.const{α:Type}(a:Acc α):jH fun _=>a:=fun _ _ _ _ _ _ h=>h
theorem jH.bind{α β:Type}{A:jo→Acc α}{B:jo→α→Acc β}(h:jH A)(k:∀x,jH fun K=>B K x):jH fun K=>A K>>=B K:=by
 intro K K' hK m l r hr
 obtain⟨y,m',l'⟩:=r
 obtain⟨x,m1,l1,h1,h2⟩:=aj hr
 rw[run_bind,h K K' hK m l _ h1]
 exact k x K K' hK m1 l1 _ h2
theorem jH.op{f:Nat}{args:List V}{cells:List Cell}:jH fun K=>op' (K f args cells):=by
 intro K K' hK m l r hr
 obtain⟨x,m',l'⟩:=r
 obtain⟨h1,rfl,rfl⟩:=gU hr
 simp only
 rw[hK f args cells x h1]
 rfl
def KZ{α:Type}(Kn:Nat→jo)(K:jo)(A:jo→Acc α):Prop:=∀m l r,(A K).run m l=some r→∃n,(A (Kn n)).run m l=some r
def Chain(Kn:Nat→jo):Prop:=∀n,KLe (Kn n) (Kn (n+1))
theorem Chain.le{Kn:Nat→jo}(h:Chain Kn){n k:Nat}(hk:n≤k):KLe (Kn n) (Kn k):=by
 induction hk with
 |refl=>exact KLe.refl _
 |step _ ih=>exact ih.trans (h _)
section
variable {Kn:Nat→jo} {K:jo} (hc:Chain Kn)
theorem KZ.const{α:Type}(a:Acc α):KZ Kn K fun _=>a:=fun _ _ _ h=>⟨0,h⟩
include hc in
theorem KZ.bind{α β:Type}{A:jo→Acc α}{B:jo→α→Acc β}(hu:jH A)(ku:∀x,jH fun K=>B K x)(h:KZ Kn K A)(k:∀x,KZ Kn K fun K=>B K x):KZ Kn K fun K=>A K>>=B K:=by
 intro m l r hr
 obtain⟨y,m',l'⟩:=r
 obtain⟨x,m1,l1,h1,h2⟩:=aj hr
 obtain⟨n1,q1⟩:=h m l _ h1
 obtain⟨n2,q2⟩:=k x m1 l1 _ h2
 refine⟨max n1 n2, ?_⟩
 rw[run_bind,hu _ _ (hc.le (Nat.le_max_left n1 n2)) m l _ q1]
 exact ku x _ _ (hc.le (Nat.le_max_right n1 n2)) m1 l1 _ q2
theorem KZ.op(hK:∀f args cells r,K f args cells=some r→∃n,Kn n f args cells=some r){f:Nat}{args:List V}{cells:List Cell}:KZ Kn K fun K=>op' (K f args cells):=by
 intro m l r hr
 obtain⟨x,m',l'⟩:=r
 obtain⟨h1,rfl,rfl⟩:=gU hr
 obtain⟨n,hn⟩:=hK f args cells x h1
 refine⟨n, ?_⟩
 simp only
 rw[hn]
 rfl
end
theorem apN(X:Ctx)(fn dst f:Nat)(args:List V):jH fun K=>Vy X K fn dst f args:=by
 unfold Vy
 refine jH.bind (jH.const _) fun g=>jH.bind (jH.const _) fun _=>jH.bind (jH.const _) fun args=>jH.bind (jH.const _) fun cells=>jH.bind (jH.const _) fun⟨args,KL⟩=>jH.bind (jH.const _) fun _=>jH.bind jH.op fun out=>jH.const _
theorem apO{Kn:Nat→jo}{K:jo}(hc:Chain Kn)(hK:∀f args cells r,K f args cells=some r→∃n,Kn n f args cells=some r)(X:Ctx)(fn dst f:Nat)(args:List V):KZ Kn K fun K=>Vy X K fn dst f args:=by
 unfold Vy
 refine KZ.bind hc (jH.const _) ?_ (KZ.const _) fun g=> ?_
 ·exact fun g=>jH.bind (jH.const _) fun _=>jH.bind (jH.const _) fun args=>jH.bind (jH.const _) fun cells=>jH.bind (jH.const _) fun⟨args,KL⟩=>jH.bind (jH.const _) fun _=>jH.bind jH.op fun out=>jH.const _
 refine KZ.bind hc (jH.const _) ?_ (KZ.const _) fun _=> ?_
 ·exact fun g=>jH.bind (jH.const _) fun args=>jH.bind (jH.const _) fun cells=>jH.bind (jH.const _) fun⟨args,KL⟩=>jH.bind (jH.const _) fun _=>jH.bind jH.op fun out=>jH.const _
 refine KZ.bind hc (jH.const _) ?_ (KZ.const _) fun args=> ?_
 ·exact fun g=>jH.bind (jH.const _) fun cells=>jH.bind (jH.const _) fun⟨args,KL⟩=>jH.bind (jH.const _) fun _=>jH.bind jH.op fun out=>jH.const _
 refine KZ.bind hc (jH.const _) ?_ (KZ.const _) fun cells=> ?_
 ·exact fun g=>jH.bind (jH.const _) fun⟨args,KL⟩=>jH.bind (jH.const _) fun _=>jH.bind jH.op fun out=>jH.const _
 refine KZ.bind hc (jH.const _) ?_ (KZ.const _) fun⟨args,KL⟩=> ?_
 ·exact fun⟨args,KL⟩=>jH.bind (jH.const _) fun _=>jH.bind jH.op fun out=>jH.const _
 refine KZ.bind hc (jH.const _) ?_ (KZ.const _) fun _=> ?_
 ·exact fun _=>jH.bind jH.op fun out=>jH.const _
 exact KZ.bind hc jH.op (fun out=>jH.const _) (KZ.op hK) fun out=>KZ.const _
theorem avS(X:Ctx)(fn:Nat)(tm:jP)(o:Oper):jH fun K=>vop X K fn tm o:=by
 obtain⟨dst,op,type,pos,after,guard⟩:=o
 cases op<;>try exact jH.const _
 case call c=>
  obtain⟨callee,args,tys⟩:=c
  cases callee with
  |value f=>
   simp only[vop]
   split
   ·exact apN X fn _ _ _
   ·exact jH.const _
  |invoke r m=>exact jH.const _
  |builtin b=>cases b<;>exact jH.const _
 case makeFunc f a b=>cases f<;>exact jH.const _
 case slice a b c d e=>cases e<;>exact jH.const _
theorem avT{Kn:Nat→jo}{K:jo}(hc:Chain Kn)(hK:∀f args cells r,K f args cells=some r→∃n,Kn n f args cells=some r)(X:Ctx)(fn:Nat)(tm:jP)(o:Oper):KZ Kn K fun K=>vop X K fn tm o:=by
 obtain⟨dst,op,type,pos,after,guard⟩:=o
 cases op<;>try exact KZ.const _
 case call c=>
  obtain⟨callee,args,tys⟩:=c
  cases callee with
  |value f=>
   simp only[vop]
   split
   ·exact apO hc hK X fn _ _ _
   ·exact KZ.const _
  |invoke r m=>exact KZ.const _
  |builtin b=>cases b<;>exact KZ.const _
 case makeFunc f a b=>cases f<;>exact KZ.const _
 case slice a b c d e=>cases e<;>exact KZ.const _
def Up{β:Type}(E:jo→Option β):Prop:=∀K K',KLe K K'→∀r,E K=some r→E K'=some r
def Ct{β:Type}(Kn:Nat→jo)(K:jo)(E:jo→Option β):Prop:=∀r,E K=some r→∃n,E (Kn n)=some r
theorem Up.const{β:Type}(e:Option β):Up fun _=>e:=fun _ _ _ _ h=>h
theorem Ct.const{β:Type}{Kn:Nat→jo}{K:jo}(e:Option β):Ct Kn K fun _=>e:=fun _ h=>⟨0,h⟩
theorem Up.bind{α β:Type}{E:jo→Option α}{F:jo→α→Option β}(h:Up E)(k:∀x,Up fun K=>F K x):Up fun K=>(E K).bind (F K):=by
 intro K K' hK r hr
 simp only[Option.bind_eq_some_iff] at hr⊢
 obtain⟨x,h1,h2⟩:=hr
 exact⟨x,h K K' hK x h1,k x K K' hK r h2⟩
theorem Ct.bind{α β:Type}{Kn:Nat→jo}{K:jo}(hc:Chain Kn){E:jo→Option α}{F:jo→α→Option β}(hu:Up E)(ku:∀x,Up fun K=>F K x)(h:Ct Kn K E)(k:∀x,Ct Kn K fun K=>F K x):Ct Kn K fun K=>(E K).bind (F K):=by
 intro r hr
 simp only[Option.bind_eq_some_iff] at hr⊢
 obtain⟨x,h1,h2⟩:=hr
 obtain⟨n1,q1⟩:=h x h1
 obtain⟨n2,q2⟩:=k x r h2
 exact⟨max n1 n2,x,hu _ _ (hc.le (Nat.le_max_left n1 n2)) x q1,ku x _ _ (hc.le (Nat.le_max_right n1 n2)) r q2⟩
theorem agh(X:Ctx)(fn:Nat)(ops:Array Oper)(i:Nat)(S:St):Up fun K=>yC X K fn ops i S:=by
 intro K K' hK r hr
 simp only[yC] at hr⊢
 cases ho:ops[i]? with
 |none=>simp[ho] at hr
 |some o=>
  simp only[ho] at hr⊢
  cases hw:zY ops S.tm o with
  |none=>simp[hw] at hr
  |some bt=>
   obtain⟨b,tm⟩:=bt
   cases b with
   |false=>simpa[hw] using hr
   |true=>
    simp only[hw] at hr⊢
    cases hv:(vop X K fn tm o).run S.mem .none with
    |none=>simp[hv] at hr
    |some q=>rw[avS X fn tm o K K' hK S.mem .none q hv];rw[hv] at hr;exact hr
theorem apP{Kn:Nat→jo}{K:jo}(hc:Chain Kn)(hK:∀f args cells r,K f args cells=some r→∃n,Kn n f args cells=some r)(X:Ctx)(fn:Nat)(ops:Array Oper)(i:Nat)(S:St):Ct Kn K fun K=>yC X K fn ops i S:=by
 intro r hr
 simp only[yC] at hr⊢
 cases ho:ops[i]? with
 |none=>simp[ho] at hr
 |some o=>
  simp only[ho] at hr⊢
  cases hw:zY ops S.tm o with
  |none=>simp[hw] at hr
  |some bt=>
   obtain⟨b,tm⟩:=bt
   cases b with
   |false=>exact⟨0,by simpa[hw] using hr⟩
   |true=>
    simp only[hw] at hr⊢
    cases hv:(vop X K fn tm o).run S.mem .none with
    |none=>simp[hv] at hr
    |some q=>
     obtain⟨n,hn⟩:=avT hc hK X fn tm o S.mem .none q hv
     exact⟨n,by rw[hn];rw[hv] at hr;exact hr⟩
theorem XH(X:Ctx)(fn:Nat)(ops:Array Oper)(i:Nat)(is:List Nat)(S:St)(L:List (Nat×Log))(K:jo):
  uK X K fn ops (i::is) S L=(yC X K fn ops i S).bind fun r=>uK X K fn ops is r.1 ((i,r.2)::L):=by
 simp only[uK]
 cases yC X K fn ops i S with
 |none=>rfl
 |some r=>rfl
theorem GR(X:Ctx)(fn:Nat)(ops:Array Oper):∀(is:List Nat) (S:St) (L:List (Nat×Log)),Up fun K=>uK X K fn ops is S L
 |[],S,L=>Up.const _
 |i::is,S,L=>by
  simp only[XH]
  exact Up.bind (agh X fn ops i S) fun r=>GR X fn ops is r.1 _
theorem SN{Kn:Nat→jo}{K:jo}(hc:Chain Kn)(hK:∀f args cells r,K f args cells=some r→∃n,Kn n f args cells=some r)(X:Ctx)(fn:Nat)(ops:Array Oper):∀(is:List Nat) (S:St) (L:List (Nat×Log)),Ct Kn K fun K=>uK X K fn ops is S L
 |[],S,L=>Ct.const _
 |i::is,S,L=>by
  simp only[XH]
  exact Ct.bind hc (agh X fn ops i S) (fun r=>GR X fn ops is r.1 _) (apP hc hK X fn ops i S) fun r=>SN hc hK X fn ops is r.1 _
theorem adT(X:Ctx)(tm:jP)(o1 o2 o3:Oper):jH fun K=>Lc X K tm o1 o2 o3:=by
 unfold Lc
 split
 ·refine jH.bind (jH.const _) fun _=>jH.bind (jH.const _) fun e=> ?_
  split
  ·refine jH.bind (jH.const _) fun c=> ?_
   split
   ·exact jH.bind (jH.const _) fun _=>jH.bind (jH.const _) fun row=>jH.bind (jH.const _) fun rs=>jH.bind (jH.const _) fun _=>jH.bind jH.op fun out=>jH.const _
   ·exact jH.const _
  ·exact jH.const _
 ·exact jH.const _
theorem aol{Kn:Nat→jo}{K:jo}(hc:Chain Kn)(hK:∀f args cells r,K f args cells=some r→∃n,Kn n f args cells=some r)(X:Ctx)(tm:jP)(o1 o2 o3:Oper):KZ Kn K fun K=>Lc X K tm o1 o2 o3:=by
 unfold Lc
 split
 ·refine KZ.bind hc (jH.const _) ?_ (KZ.const _) fun _=>KZ.bind hc (jH.const _) ?_ (KZ.const _) fun e=> ?_
  ·intro _
   refine jH.bind (jH.const _) fun e=> ?_
   split
   ·refine jH.bind (jH.const _) fun c=> ?_
    split
    ·exact jH.bind (jH.const _) fun _=>jH.bind (jH.const _) fun row=>jH.bind (jH.const _) fun rs=>jH.bind (jH.const _) fun _=>jH.bind jH.op fun out=>jH.const _
    ·exact jH.const _
   ·exact jH.const _
  ·intro e
   split
   ·refine jH.bind (jH.const _) fun c=> ?_
    split
    ·exact jH.bind (jH.const _) fun _=>jH.bind (jH.const _) fun row=>jH.bind (jH.const _) fun rs=>jH.bind (jH.const _) fun _=>jH.bind jH.op fun out=>jH.const _
    ·exact jH.const _
   ·exact jH.const _
  ·split
   ·refine KZ.bind hc (jH.const _) ?_ (KZ.const _) fun c=> ?_
    ·intro c
     split
     ·exact jH.bind (jH.const _) fun _=>jH.bind (jH.const _) fun row=>jH.bind (jH.const _) fun rs=>jH.bind (jH.const _) fun _=>jH.bind jH.op fun out=>jH.const _
     ·exact jH.const _
    ·split
     ·refine KZ.bind hc (jH.const _) ?_ (KZ.const _) fun _=>KZ.bind hc (jH.const _) ?_ (KZ.const _) fun row=>KZ.bind hc (jH.const _) ?_ (KZ.const _) fun rs=>KZ.bind hc (jH.const _) ?_ (KZ.const _) fun _=>KZ.bind hc jH.op (fun out=>jH.const _) (KZ.op hK) fun out=>KZ.const _
      ·exact fun _=>jH.bind (jH.const _) fun row=>jH.bind (jH.const _) fun rs=>jH.bind (jH.const _) fun _=>jH.bind jH.op fun out=>jH.const _
      ·exact fun row=>jH.bind (jH.const _) fun rs=>jH.bind (jH.const _) fun _=>jH.bind jH.op fun out=>jH.const _
      ·exact fun rs=>jH.bind (jH.const _) fun _=>jH.bind jH.op fun out=>jH.const _
      ·exact fun _=>jH.bind jH.op fun out=>jH.const _
     ·exact KZ.const _
   ·exact KZ.const _
 ·exact KZ.const _
theorem UN(X:Ctx)(fn:Nat)(ops:Array Oper)(p:Nat)(S:St)(K:jo):DR X K fn ops p S=
  match ops[p]?,ops[p+1]?,ops[p+2]? with
  |some o1,some o2,some o3=>((Lc X K S.tm o1 o2 o3).run S.mem .none).bind fun r=>
   bif Nat.blt r.1.1 (DN X.P fn) &&(Nat.blt r.1.2.1 (DN X.P fn) && Jp (DN X.P fn) o3.dst) then some ⟨Um o3.dst r.1.2.2.2 (put r.1.2.1 r.1.2.2.1 (put r.1.1 .undef S.tm)),r.2.1⟩ else none
  |_,_,_=>none:=by
 simp only[DR]
 cases ops[p]? with
 |none=>rfl
 |some o1=>cases ops[p+1]? with
  |none=>rfl
  |some o2=>cases ops[p+2]? with
   |none=>rfl
   |some o3=>
    simp only
    cases(Lc X K S.tm o1 o2 o3).run S.mem .none with
    |none=>rfl
    |some r=>rfl
theorem UO(X:Ctx)(fn:Nat)(ops:Array Oper)(p:Nat)(S:St):Up fun K=>DR X K fn ops p S:=by
 simp only[UN]
 cases ops[p]? with
 |none=>exact Up.const _
 |some o1=>cases ops[p+1]? with
  |none=>exact Up.const _
  |some o2=>cases ops[p+2]? with
   |none=>exact Up.const _
   |some o3=>exact Up.bind (fun K K' hK r hr=>adT X S.tm o1 o2 o3 K K' hK S.mem .none r hr) fun r=>Up.const _
theorem al8{Kn:Nat→jo}{K:jo}(hc:Chain Kn)(hK:∀f args cells r,K f args cells=some r→∃n,Kn n f args cells=some r)(X:Ctx)(fn:Nat)(ops:Array Oper)(p:Nat)(S:St):Ct Kn K fun K=>DR X K fn ops p S:=by
 simp only[UN]
 cases ops[p]? with
 |none=>exact Ct.const _
 |some o1=>cases ops[p+1]? with
  |none=>exact Ct.const _
  |some o2=>cases ops[p+2]? with
   |none=>exact Ct.const _
   |some o3=>exact Ct.bind hc (fun K K' hK r hr=>adT X S.tm o1 o2 o3 K K' hK S.mem .none r hr) (fun r=>Up.const _) (fun r hr=>aol hc hK X S.tm o1 o2 o3 S.mem .none r hr) fun r=>Ct.const _
theorem PY(X:Ctx)(fn id:Nat)(ops:Array Oper)(draw:Bool)(S:St)(K:jo):yK X K fn id ops draw S=
  match X.Jd.fuse fn id with
  |0=>uK X K fn ops (List.range ops.size) S []
  |p+1=>match draw with
   |true=>none
   |false=>(uK X K fn ops (List.range p) S []).bind fun r=>(DR X K fn ops p r.1).bind fun S2=>uK X K fn ops ((List.range ops.size).drop (p+3)) S2 []:=by
 simp only[yK]
 cases X.Jd.fuse fn id with
 |zero=>rfl
 |succ p=>
  cases draw with
  |true=>rfl
  |false=>
   simp only
   cases uK X K fn ops (List.range p) S [] with
   |none=>rfl
   |some r=>
    simp only[Option.bind_some]
    cases DR X K fn ops p r.1<;>rfl
theorem VW(X:Ctx)(fn id:Nat)(ops:Array Oper)(draw:Bool)(S:St):Up fun K=>yK X K fn id ops draw S:=by
 simp only[PY]
 cases X.Jd.fuse fn id with
 |zero=>exact GR X fn ops _ S _
 |succ p=>
  cases draw with
  |true=>exact Up.const _
  |false=>exact Up.bind (GR X fn ops _ S _) fun r=>Up.bind (UO X fn ops p r.1) fun S2=>GR X fn ops _ S2 _
theorem aeX{Kn:Nat→jo}{K:jo}(hc:Chain Kn)(hK:∀f args cells r,K f args cells=some r→∃n,Kn n f args cells=some r)(X:Ctx)(fn id:Nat)(ops:Array Oper)(draw:Bool)(S:St):Ct Kn K fun K=>yK X K fn id ops draw S:=by
 simp only[PY]
 cases X.Jd.fuse fn id with
 |zero=>exact SN hc hK X fn ops _ S _
 |succ p=>
  cases draw with
  |true=>exact Ct.const _
  |false=>
   exact Ct.bind hc (GR X fn ops _ S _) (fun r=>Up.bind (UO X fn ops p r.1) fun S2=>GR X fn ops _ S2 _) (SN hc hK X fn ops _ S _) fun r=>
    Ct.bind hc (UO X fn ops p r.1) (fun S2=>GR X fn ops _ S2 _) (al8 hc hK X fn ops p r.1) fun S2=>SN hc hK X fn ops _ S2 _
theorem XI(X:Ctx)(fn id:Nat)(ops:Array Oper)(draw:Bool)(S:St)(K:jo):
  region X K fn id ops draw S=(yK X K fn id ops draw S).bind fun r=>
   bif(match draw with|false=>true|true=>X.P.follows .mixedOrders &&(backOk ops && QJ ops (Region.before ops) r.2)) then prune (X.Jd.keep fn id) r.1 else none:=by
 simp only[region]
 cases yK X K fn id ops draw S with
 |none=>rfl
 |some r=>rfl
theorem adU(X:Ctx)(fn id:Nat)(ops:Array Oper)(draw:Bool)(S:St):Up fun K=>region X K fn id ops draw S:=by
 simp only[XI]
 exact Up.bind (VW X fn id ops draw S) fun r=>Up.const _
theorem aom{Kn:Nat→jo}{K:jo}(hc:Chain Kn)(hK:∀f args cells r,K f args cells=some r→∃n,Kn n f args cells=some r)(X:Ctx)(fn id:Nat)(ops:Array Oper)(draw:Bool)(S:St):Ct Kn K fun K=>region X K fn id ops draw S:=by
 simp only[XI]
 exact Ct.bind hc (VW X fn id ops draw S) (fun r=>Up.const _) (aeX hc hK X fn id ops draw S) fun r=>Ct.const _
theorem XJ{b:St→Option (Ex×St)}:∀{n k:Nat} {S:St} {r:Ex×St},iter b n S=some r→n≤k→iter b k S=some r
 |0,_,_,_,h,_=>by simp[iter] at h
 |n+1,0,_,_,_,hk=>by omega
 |n+1,k+1,S,r,h,hk=>by
  simp only[iter] at h⊢
  cases hb:b S with
  |none=>simp[hb] at h
  |some q=>
   obtain⟨e,S'⟩:=q
   rw[hb] at h
   cases e with
   |normal=>exact XJ h (by omega)
   |exit id=>exact h
   |ret=>exact h
theorem EJ{α:Type}{f:Nat→Option α}{x:α}{n:Nat}(hn:f n=some x)(h:∀m y,f m=some y→y=x):lim f=some x:=by
 unfold lim
 rw[dif_pos ⟨x,n,hn⟩]
 congr 1
 obtain⟨m,hm⟩:=Classical.choose_spec (⟨x,n,hn⟩:∃a n,f n=some a)
 exact h m _ hm
theorem VX{b:St→Option (Ex×St)}{S:St}{r:Ex×St}{n:Nat}(h:iter b n S=some r):NQ b S=some r:=by
 refine EJ h fun m y hy=> ?_
 have h1:=XJ h (Nat.le_max_left n m)
 rw[XJ hy (Nat.le_max_right n m)] at h1
 exact Option.some.inj h1
theorem UQ{b:St→Option (Ex×St)}{S:St}{r:Ex×St}(h:NQ b S=some r):∃n,iter b n S=some r:=OX h
theorem iter_eq{b:St→Option (Ex×St)}{n:Nat}{S:St}:iter b (n+1) S=(b S).bind fun q=>match q with|(.normal,S')=>iter b n S'|(e,S')=>some (e,S'):=by
 simp only[iter]
 cases b S with
 |none=>rfl
 |some q=>obtain⟨e,S'⟩:=q;cases e<;>rfl
theorem aeY{B:jo→St→Option (Ex×St)}(h:∀S,Up fun K=>B K S):∀(n:Nat) (S:St),Up fun K=>iter (B K) n S
 |0,S=>Up.const _
 |n+1,S=>by
  simp only[iter_eq]
  refine Up.bind (h S) fun q=> ?_
  obtain⟨e,S'⟩:=q
  cases e with
  |normal=>exact aeY h n S'
  |exit id=>exact Up.const _
  |ret=>exact Up.const _
theorem am8{Kn:Nat→jo}{K:jo}(hc:Chain Kn){B:jo→St→Option (Ex×St)}(hu:∀S,Up fun K=>B K S)(h:∀S,Ct Kn K fun K=>B K S):∀(n:Nat) (S:St),Ct Kn K fun K=>iter (B K) n S
 |0,S=>Ct.const _
 |n+1,S=>by
  simp only[iter_eq]
  refine Ct.bind hc (hu S) (fun q=> ?_) (h S) fun q=> ?_
  all_goals
   obtain⟨e,S'⟩:=q
   cases e
  ·exact aeY hu n S'
  ·exact Up.const _
  ·exact Up.const _
  ·exact am8 hc hu h n S'
  ·exact Ct.const _
  ·exact Ct.const _
theorem apQ{B:jo→St→Option (Ex×St)}(h:∀S,Up fun K=>B K S)(S:St):Up fun K=>NQ (B K) S:=by
 intro K K' hK r hr
 obtain⟨n,hn⟩:=UQ hr
 exact VX (aeY h n S K K' hK r hn)
theorem apR{Kn:Nat→jo}{K:jo}(hc:Chain Kn){B:jo→St→Option (Ex×St)}(hu:∀S,Up fun K=>B K S)(h:∀S,Ct Kn K fun K=>B K S)(S:St):Ct Kn K fun K=>NQ (B K) S:=by
 intro r hr
 obtain⟨n,hn⟩:=UQ hr
 obtain⟨k,hk⟩:=am8 hc hu h n S r hn
 exact⟨k,VX hk⟩
theorem aeZ(X:Ctx)(fn:Nat)(c:Code):∀S,Up fun K=>den X K fn c S:=by
 induction c with
 |region id ops draw=>
  intro S K K' hK r hr
  simp only[den] at hr⊢
  cases h:region X K fn id ops draw S with
  |none=>simp[h] at hr
  |some S'=>
   have he0:=adU X fn id ops draw S K K' hK S' h
   dsimp only at he0
   rw[he0];rw[h] at hr;exact hr
 |seq a b iha ihb=>
  intro S K K' hK r hr
  simp only[den] at hr⊢
  cases h:den X K fn a S with
  |none=>simp[h] at hr
  |some q=>
   have he0:=iha S K K' hK q h
   dsimp only at he0
   rw[he0]
   rw[h] at hr
   obtain⟨e,S'⟩:=q
   cases e with
   |normal=>exact ihb S' K K' hK r hr
   |exit id=>exact hr
   |ret=>exact hr
 |cond c a b iha ihb=>
  intro S K K' hK r hr
  simp only[den] at hr⊢
  cases h:TI X.P S.tm c with
  |none=>simp[h] at hr
  |some q=>
   rw[h] at hr
   cases q with
   |true=>exact iha S K K' hK r hr
   |false=>exact ihb S K K' hK r hr
 |block id c ih=>
  intro S K K' hK r hr
  simp only[den] at hr⊢
  cases h:den X K fn c S with
  |none=>simp[h] at hr
  |some q=>
   have he0:=ih S K K' hK q h
   dsimp only at he0
   rw[he0];rw[h] at hr;exact hr
 |loop c ih=>
  intro S
  exact apQ ih S
 |_=>intro S;exact Up.const _
theorem avU{Kn:Nat→jo}{K:jo}(hc:Chain Kn)(hK:∀f args cells r,K f args cells=some r→∃n,Kn n f args cells=some r)(X:Ctx)(fn:Nat)(c:Code):∀S,Ct Kn K fun K=>den X K fn c S:=by
 induction c with
 |region id ops draw=>
  intro S r hr
  simp only[den] at hr⊢
  cases h:region X K fn id ops draw S with
  |none=>simp[h] at hr
  |some S'=>
   obtain⟨n,hn⟩:=aom hc hK X fn id ops draw S S' h
   dsimp only at hn
   exact⟨n,by rw[hn];rw[h] at hr;exact hr⟩
 |seq a b iha ihb=>
  intro S r hr
  simp only[den] at hr⊢
  cases h:den X K fn a S with
  |none=>simp[h] at hr
  |some q=>
   obtain⟨n,hn⟩:=iha S q h
   dsimp only at hn
   rw[h] at hr
   obtain⟨e,S'⟩:=q
   cases e with
   |normal=>
    obtain⟨k,hk⟩:=ihb S' r hr
    dsimp only at hk
    refine⟨max n k, ?_⟩
    have he0:=aeZ X fn a S _ _ (hc.le (Nat.le_max_left n k)) _ hn
    dsimp only at he0
    rw[he0]
    exact aeZ X fn b S' _ _ (hc.le (Nat.le_max_right n k)) _ hk
   |exit id=>exact⟨n,by rw[hn];exact hr⟩
   |ret=>exact⟨n,by rw[hn];exact hr⟩
 |cond c a b iha ihb=>
  intro S r hr
  simp only[den] at hr⊢
  cases h:TI X.P S.tm c with
  |none=>simp[h] at hr
  |some q=>
   rw[h] at hr
   cases q with
   |true=>exact iha S r hr
   |false=>exact ihb S r hr
 |block id c ih=>
  intro S r hr
  simp only[den] at hr⊢
  cases h:den X K fn c S with
  |none=>simp[h] at hr
  |some q=>
   obtain⟨n,hn⟩:=ih S q h
   dsimp only at hn
   exact⟨n,by rw[hn];rw[h] at hr;exact hr⟩
 |loop c ih=>
  intro S
  exact apR hc (aeZ X fn c) ih S
 |_=>intro S;exact Ct.const _
theorem am9(X:Ctx)(f:Nat)(args:List V)(cells:List Cell):Up fun K=>body X K f args cells:=by
 intro K K' hK r hr
 simp only[body] at hr⊢
 cases hg:X.P.funcs[f]? with
 |none=>simp[hg] at hr
 |some g=>
  simp only[hg] at hr⊢
  cases hcd:g.body with
  |none=>simp[hcd] at hr
  |some c=>
   simp only[hcd] at hr⊢
   revert hr
   generalize (!(Nat.ble cells.length lD && Nat.ble args.length g.ntmps))=q
   cases q with
   |true=>exact id
   |false=>
    simp only[cond_false]
    intro hr
    split at hr
    ·rename_i tm m l he
     cases h:den X K f c ⟨tm,m⟩ with
     |none=>simp[h] at hr
     |some q=>
      have he0:=aeZ X f c ⟨tm,m⟩ K K' hK q h
      dsimp only at he0
      rw[he0];rw[h] at hr;exact hr
    ·cases hr
theorem atr{Kn:Nat→jo}{K:jo}(hc:Chain Kn)(hK:∀f args cells r,K f args cells=some r→∃n,Kn n f args cells=some r)(X:Ctx)(f:Nat)(args:List V)(cells:List Cell):Ct Kn K fun K=>body X K f args cells:=by
 intro r hr
 simp only[body] at hr⊢
 cases hg:X.P.funcs[f]? with
 |none=>simp[hg] at hr
 |some g=>
  simp only[hg] at hr⊢
  cases hcd:g.body with
  |none=>simp[hcd] at hr
  |some c=>
   simp only[hcd] at hr⊢
   revert hr
   generalize (!(Nat.ble cells.length lD && Nat.ble args.length g.ntmps))=q
   cases q with
   |true=>exact fun h=>⟨0,h⟩
   |false=>
    simp only[cond_false]
    intro hr
    split at hr
    ·rename_i tm m l he
     cases h:den X K f c ⟨tm,m⟩ with
     |none=>simp[h] at hr
     |some q=>
      obtain⟨n,hn⟩:=avU hc hK X f c ⟨tm,m⟩ q h
      dsimp only at hn
      exact⟨n,by rw[hn];rw[h] at hr;exact hr⟩
    ·cases hr
theorem NW(X:Ctx):Chain (QL X)
 |0=>fun f args cells r h=>by simp[QL] at h
 |n+1=>fun f args cells r h=>by
  simp only[QL] at h⊢
  cases hp:X.Vt f with
  |some p=>simpa[hp] using h
  |none=>
   simp only[hp] at h⊢
   exact am9 X f args cells _ _ (NW X n) r h
theorem adV{X:Ctx}{n:Nat}{f:Nat}{args:List V}{cells:List Cell}{r:List Row×List Cell}(h:QL X n f args cells=some r):call X f args cells=some r:=by
 refine EJ h fun m y hy=> ?_
 have h1:=(NW X).le (Nat.le_max_left n m) f args cells r h
 rw[(NW X).le (Nat.le_max_right n m) f args cells y hy] at h1
 exact Option.some.inj h1
theorem atu{X:Ctx}{K:jo}(hK:KLe K (call X)){f:Nat}{args:List V}{cells:List Cell}{r:List Row×List Cell}(hp:X.Vt f=none)(h:body X K f args cells=some r):call X f args cells=some r:=by
 have h1:=am9 X f args cells K (call X) hK r h
 obtain⟨n,hn⟩:=atr (NW X) (fun f a c r hr=>OX hr) X f args cells r h1
 dsimp only at hn
 refine adV (n:=n+1) ?_
 simp only[QL,hp]
 exact hn
theorem ae0{X:Ctx}{f:Nat}{p:List V→List Cell→Option (List Row×List Cell)}{args:List V}{cells:List Cell}{r:List Row×List Cell}(hp:X.Vt f=some p)(h:p args cells=some r):call X f args cells=some r:=
 adV (n:=1) (by simp only[QL,hp];exact h)
end Go.Vm
namespace Go.Vm
open Go
abbrev Loops:=Nat→St→Option (Ex×St)
def lid:Code→Nat
 | .region id _ _=>id
 | .seq a b=>match lid a with
  |0=>lid b
  |n=>n
 | .block _ c=>lid c
 | .loop c=>lid c
 | .cond _ a b=>match lid a with
  |0=>lid b
  |n=>n
 |_=>0
def loops:Code→List Code
 | .seq a b=>loops a++loops b
 | .cond _ a b=>loops a++loops b
 | .block _ c=>loops c
 | .loop c=>[c]
 |_=>[]
def EK(X:Ctx)(K:jo)(L:Loops)(fn:Nat):Code→St→Option (Ex×St)
 | .skip,S=>some (.normal,S)
 | .region id ops draw,S=>match region X K fn id ops draw S with
  |some S'=>some (.normal,S')
  |none=>none
 | .seq a b,S=>match EK X K L fn a S with
  |some (.normal,S')=>EK X K L fn b S'
  |r=>r
 | .cond c a b,S=>match TI X.P S.tm c with
  |some true=>EK X K L fn a S
  |some false=>EK X K L fn b S
  |none=>none
 | .block id c,S=>match EK X K L fn c S with
  |some (.exit j,S')=>bif Nat.beq j id then some (.normal,S') else some (.exit j,S')
  |r=>r
 | .loop c,S=>L (lid c) S
 | .exit id,S=>some (.exit id,S)
 | .ret,S=>some (.ret,S)
 |_,_=>none
def codeOf(P:Program)(f:Nat):Code:=match P.funcs[f]? with
 |some g=>match g.body with
  |some c=>c
  |none=> .skip
 |none=> .skip
def YR(X:Ctx)(K:jo)(L:Loops)(f:Nat)(args:List V)(cells:List Cell):Option (List Row×List Cell):=
 match X.P.funcs[f]? with
 |some g=>match g.body with
  |some c=>bif !(Nat.ble cells.length lD && Nat.ble args.length g.ntmps) then none else match(entry X f g args cells).run (qj 0 cells) .none with
   |some (tm,m,_)=>(match EK X K L f c ⟨tm,m⟩ with
    |some (.normal,S)=>leave X g cells.length S
    |some (.ret,S)=>leave X g cells.length S
    |_=>none)
   |none=>none
  |none=>none
 |none=>none
def LOk(X:Ctx)(K:jo)(fn:Nat)(L:Loops)(cs:List Code):Prop:=∀c,c∈cs→∀S r,L (lid c) S=some r→NQ (den X K fn c) S=some r
theorem LOk.nil{X:Ctx}{K:jo}{fn:Nat}{L:Loops}:LOk X K fn L []:=fun _ h=>by simp at h
theorem LOk.cons{X:Ctx}{K:jo}{fn:Nat}{L:Loops}{c:Code}{cs:List Code}(h:∀S r,L (lid c) S=some r→NQ (den X K fn c) S=some r)(k:LOk X K fn L cs):LOk X K fn L (c::cs):=by
 intro d hd
 rcases List.mem_cons.1 hd with rfl|hd
 ·exact h
 ·exact k d hd
theorem apS{X:Ctx}{K:jo}{L:Loops}{fn:Nat}:∀{c:Code} {S:St} {r:Ex×St},LOk X K fn L (loops c)→EK X K L fn c S=some r→den X K fn c S=some r:=by
 intro c
 induction c with
 |seq a b iha ihb=>
  intro S r hL h
  have hLa:LOk X K fn L (loops a):=fun d hd=>hL d (by simp[loops,hd])
  have hLb:LOk X K fn L (loops b):=fun d hd=>hL d (by simp[loops,hd])
  simp only[EK] at h
  simp only[den]
  cases ha:EK X K L fn a S with
  |none=>simp[ha] at h
  |some q=>
   rw[iha hLa ha]
   rw[ha] at h
   obtain⟨e,S'⟩:=q
   cases e with
   |normal=>exact ihb hLb h
   |exit id=>exact h
   |ret=>exact h
 |cond c a b iha ihb=>
  intro S r hL h
  have hLa:LOk X K fn L (loops a):=fun d hd=>hL d (by simp[loops,hd])
  have hLb:LOk X K fn L (loops b):=fun d hd=>hL d (by simp[loops,hd])
  simp only[EK] at h
  simp only[den]
  cases hc:TI X.P S.tm c with
  |none=>simp[hc] at h
  |some q=>
   rw[hc] at h
   cases q with
   |true=>exact iha hLa h
   |false=>exact ihb hLb h
 |block id c ih=>
  intro S r hL h
  simp only[EK] at h
  simp only[den]
  cases ha:EK X K L fn c S with
  |none=>simp[ha] at h
  |some q=>rw[ih hL ha];rw[ha] at h;exact h
 |loop c ih=>
  intro S r hL h
  exact hL c (by simp[loops]) S r h
 |region id ops draw=>intro S r hL h;exact h
 |skip=>intro S r hL h;exact h
 |exit id=>intro S r hL h;exact h
 |ret=>intro S r hL h;exact h
 |_=>intro S r hL h;simp[EK] at h
theorem ana(X:Ctx)(L:Loops)(fn:Nat)(c:Code):∀S,Up fun K=>EK X K L fn c S:=by
 induction c with
 |region id ops draw=>
  intro S K K' hK r hr
  simp only[EK] at hr⊢
  cases h:region X K fn id ops draw S with
  |none=>simp[h] at hr
  |some S'=>
   have he0:=adU X fn id ops draw S K K' hK S' h
   dsimp only at he0
   rw[he0];rw[h] at hr;exact hr
 |seq a b iha ihb=>
  intro S K K' hK r hr
  simp only[EK] at hr⊢
  cases h:EK X K L fn a S with
  |none=>simp[h] at hr
  |some q=>
   have he0:=iha S K K' hK q h
   dsimp only at he0
   rw[he0]
   rw[h] at hr
   obtain⟨e,S'⟩:=q
   cases e with
   |normal=>exact ihb S' K K' hK r hr
   |exit id=>exact hr
   |ret=>exact hr
 |cond c a b iha ihb=>
  intro S K K' hK r hr
  simp only[EK] at hr⊢
  cases h:TI X.P S.tm c with
  |none=>simp[h] at hr
  |some q=>
   rw[h] at hr
   cases q with
   |true=>exact iha S K K' hK r hr
   |false=>exact ihb S K K' hK r hr
 |block id c ih=>
  intro S K K' hK r hr
  simp only[EK] at hr⊢
  cases h:EK X K L fn c S with
  |none=>simp[h] at hr
  |some q=>
   have he0:=ih S K K' hK q h
   dsimp only at he0
   rw[he0];rw[h] at hr;exact hr
 |_=>intro S;exact Up.const _
theorem apT(X:Ctx)(L:Loops)(f:Nat)(args:List V)(cells:List Cell):Up fun K=>YR X K L f args cells:=by
 intro K K' hK r hr
 simp only[YR] at hr⊢
 cases hg:X.P.funcs[f]? with
 |none=>simp[hg] at hr
 |some g=>
  simp only[hg] at hr⊢
  cases hcd:g.body with
  |none=>simp[hcd] at hr
  |some c=>
   simp only[hcd] at hr⊢
   revert hr
   generalize (!(Nat.ble cells.length lD && Nat.ble args.length g.ntmps))=q
   cases q with
   |true=>exact id
   |false=>
    simp only[cond_false]
    intro hr
    split at hr
    ·rename_i tm m l he
     cases h:EK X K L f c ⟨tm,m⟩ with
     |none=>simp[h] at hr
     |some q=>
      have he0:=ana X L f c ⟨tm,m⟩ K K' hK q h
      dsimp only at he0
      rw[he0];rw[h] at hr;exact hr
    ·cases hr
theorem atv{X:Ctx}{K:jo}{L:Loops}{f:Nat}{args:List V}{cells:List Cell}{r:List Row×List Cell}(hL:LOk X K f L (loops (codeOf X.P f)))(h:YR X K L f args cells=some r):body X K f args cells=some r:=by
 simp only[YR] at h
 simp only[body]
 cases hg:X.P.funcs[f]? with
 |none=>simp[hg] at h
 |some g=>
  simp only[hg] at h⊢
  cases hcd:g.body with
  |none=>simp[hcd] at h
  |some c=>
   simp only[hcd] at h⊢
   have hcode:codeOf X.P f=c:=by simp[codeOf,hg,hcd]
   rw[hcode] at hL
   revert h
   generalize (!(Nat.ble cells.length lD && Nat.ble args.length g.ntmps))=q
   cases q with
   |true=>exact id
   |false=>
    simp only[cond_false]
    intro h
    split at h
    ·rename_i tm m l he
     simp only[he]
     cases hd:EK X K L f c ⟨tm,m⟩ with
     |none=>simp[hd] at h
     |some q=>rw[apS hL hd];rw[hd] at h;exact h
    ·cases h
theorem apU{X:Ctx}{K:jo}{L:Loops}{f:Nat}{args:List V}{cells:List Cell}{r:List Row×List Cell}(hp:X.Vt f=none)(hK:KLe K (call X))(hL:LOk X (call X) f L (loops (codeOf X.P f)))
  (h:YR X K L f args cells=some r):call X f args cells=some r:=by
 exact atu (KLe.refl _) hp (atv hL (apT X L f args cells K (call X) hK r h))
theorem atw{X:Ctx}{K:jo}{L:Loops}{fn:Nat}{c:Code}{S:St}{r:Ex×St}(hK:KLe K (call X))(hL:LOk X (call X) fn L (loops c))(h:EK X K L fn c S=some r):den X (call X) fn c S=some r:=
 apS hL (ana X L fn c S K (call X) hK r h)
end Go.Vm
namespace Go.Vm
open Go
structure Res(α:Type) where
 β:Type
 o:Option β
 enc:β→α
def Res.val{α:Type}(r:Res α):Option α:=r.o.map r.enc
abbrev Jm:=Nat→List V→List Cell→Res (List Row×List Cell)
inductive Alt(α:Type):Type 1 where
 |leaf (β:Type) (enc:β→α)
 |sum (a b:Alt α)
def Alt.T{α:Type}:Alt α→Type
 | .leaf β _=>β
 | .sum a b=>a.T⊕b.T
def Alt.enc{α:Type}:(a:Alt α)→a.T→α
 | .leaf _ enc,x=>enc x
 | .sum a _,.inl x=>a.enc x
 | .sum _ b,.inr x=>b.enc x
structure UR(α:Type) where
 alt:Alt α
 o:Option alt.T
def UR.val{α:Type}(r:UR α):Option α:=r.o.map r.alt.enc
def UR.none{α:Type}:UR α:=⟨.leaf Empty Empty.elim,.none⟩
abbrev NY:=Nat→St→UR (Ex×St)
def Jm.to(K:Jm):jo:=fun f a c=>(K f a c).val
def NY.to(L:NY):Loops:=fun n S=>(L n S).val
def Res.none{α:Type}:Res α:=⟨Empty,.none,Empty.elim⟩
section
variable {R:Type}
def xZ{α β γ:Type}(r:α⊕β)(f:α→Option γ)(g:β→Option γ):Option γ:=match r with
 | .inl x=>f x
 | .inr y=>g y
def Alt.go{α:Type}:(a:Alt α)→a.T→(α→Option R)→Option R
 | .leaf _ enc=>fun x k=>k (enc x)
 | .sum a b=>fun x k=>xZ x (fun x=>a.go x k) (fun y=>b.go y k)
theorem Alt.go_eq{α:Type}(k:α→Option R):∀(a:Alt α) (x:a.T),a.go x k=k (a.enc x)
 | .leaf _ enc,x=>rfl
 | .sum a _,.inl x=>Alt.go_eq k a x
 | .sum _ b,.inr x=>Alt.go_eq k b x
theorem UR.abf{α:Type}{r:UR α}{x:α}(h:r.val=some x):∃y,r.o=some y∧r.alt.enc y=x:=by
 simpa[UR.val,Option.map_eq_some_iff] using h
theorem Res.abf{α:Type}{r:Res α}{x:α}(h:r.val=some x):∃y,r.o=some y∧r.enc y=x:=by
 simpa[Res.val,Option.map_eq_some_iff] using h
def Acc.ae1{α:Type}:Acc α→Mem→Log→(α→Mem→Log→Option R)→Option R
 | .ret a,m,l,k=>k a m l
 | .fail,_,_,_=>none
 | .get i c,m,l,k=>(c (Vm.get i m)).ae1 m (l.rd i) k
 | .set i x c,m,l,k=>c.ae1 (put i x m) (l.wr i) k
 | .opt o c,m,l,k=>match o with|some b=>(c b).ae1 m l k|none=>none
 | .guard b c,m,l,k=>match b with|true=>c.ae1 m l k|false=>none
def al9(X:Ctx)(K:Jm)(fn dst f:Nat)(args:List V):Acc V:=do
 let g←op' X.P.funcs[f]?
 ck (g.body.isSome && !(g.name == "runtime.NumGoroutine"))
 let imp:=LH X.Jd f 0 [] args
 let args←OA X.Jd f 0 args
 let cells←QG X.Jd imp imp
 let(args,KL)←OB X.Jd imp f 0 args
 ck (KL.all fun r=> !(mem? r imp))
 let b←op' (K f args cells).o
 let out:=(K f args cells).enc b
 ck (Nat.beq out.1.length g.resultTypes.size)
 let need:= !(KL.isEmpty) &&(SC X.P (X.Jd.Zd fn dst) 0 g.resultTypes.toList && imp.isEmpty)
 ck (bif need then out.1.all dM else true)
 freeze (bif need then[] else KL)
 Yl X dst out.2 0 imp
 let vs←Ut X (X.Jd.Zd fn dst) dst out.1 0 g.resultTypes.toList
 match vs with
 |[v]=>pure v
 |vs=>pure (.yE vs)
def avV(X:Ctx)(K:Jm)(fn:Nat)(tm:jP)(o:Oper):Acc V:=
 match o.op with
 | .call {callee:=.value f,args,argTypes}=>match ev X.P tm 0 f with
  | .clo g first caps=>al9 X K fn (o.dst.getD 0) g (first++ru X.P tm args.toList argTypes.toList++caps)
  |_=> .fail
 |_=>vop X (fun _ _ _=>none) fn tm o
def apV(x:D)(k:D→Option R):Option R:=match x with
 | .int j n=>k (.int j n)
 | .bool b=>k (.bool b)
 | .str s=>k (.str s)
 | .MG=>k .MG
 | .sl o s rows=>match o with
  |true=>k (.sl true s rows)
  |false=>k (.sl false s rows)
mutual
def Hu(v:V)(k:V→Option R):Option R:=match v with
 | .d x=>apV x fun x=>k (.d x)
 | .nil s=>k (.nil s)
 | .own r v=>k (.own r v)
 | .ptr r o=>k (.ptr r o)
 | .sS r v i o=>k (.sS r v i o)
 | .sJ row o=>k (.sJ row o)
 | .clo f a b=>LQ a fun a=>LQ b fun b=>k (.clo f a b)
 | .agg cs=>LQ cs fun cs=>k (.agg cs)
 | .yE cs=>LQ cs fun cs=>k (.yE cs)
 | .undef=>k .undef
def LQ(vs:List V)(k:List V→Option R):Option R:=match vs with
 |[]=>k []
 |v::vs=>Hu v fun v=>LQ vs fun vs=>k (v::vs)
end
def SQ(tm:jP)(k:jP→Option R):Option R:=match tm with
 |[]=>k []
 |(t,v)::tm=>Hu v fun v=>SQ tm fun tm=>k ((t,v)::tm)
def XK(c:Cell)(k:Cell→Option R):Option R:=match c with
 | .box t cs=>LQ cs fun cs=>k (.box t cs)
 | .arr fz fl ver s rows=>k (.arr fz fl ver s rows)
 | .dead=>k .dead
 | .DJ ver s rows=>k (.DJ ver s rows)
def MP(m:Mem)(k:Mem→Option R):Option R:=match m with
 |[]=>k []
 |(r,c)::m=>XK c fun c=>MP m fun m=>k ((r,c)::m)
def aon(L:List (Nat×Nat))(r:Nat)(k:Nat→Option R):Option R:=match get r L with
 |some j=>k j
 |none=>k r
mutual
def OY(L:List (Nat×Nat))(v:V)(k:V→Option R):Option R:=match v with
 | .d x=>k (.d x)
 | .nil s=>k (.nil s)
 | .own r v=>aon L r fun r=>k (.own r v)
 | .ptr r o=>aon L r fun r=>k (.ptr r o)
 | .sS r v i o=>aon L r fun r=>k (.sS r v i o)
 | .sJ row o=>k (.sJ row o)
 | .clo f a b=>PZ L a fun a=>PZ L b fun b=>k (.clo f a b)
 | .agg cs=>PZ L cs fun cs=>k (.agg cs)
 | .yE vs=>PZ L vs fun vs=>k (.yE vs)
 | .undef=>k .undef
def PZ(L:List (Nat×Nat))(vs:List V)(k:List V→Option R):Option R:=match vs with
 |[]=>k []
 |v::vs=>OY L v fun v=>PZ L vs fun vs=>k (v::vs)
end
def ae2(L:List (Nat×Nat))(tm:jP)(k:jP→Option R):Option R:=match tm with
 |[]=>k []
 |(t,v)::tm=>OY L v fun v=>ae2 L tm fun tm=>k ((t,v)::tm)
def apW(L:List (Nat×Nat))(c:Cell)(k:Cell→Option R):Option R:=match c with
 | .box t cs=>PZ L cs fun cs=>k (.box t cs)
 | .arr fz fl ver s rows=>k (.arr fz fl ver s rows)
 | .dead=>k .dead
 | .DJ ver s rows=>k (.DJ ver s rows)
def aah(L:List (Nat×Nat))(m:Mem)(k:Mem→Option R):Option R:=match m with
 |[]=>k []
 |(r,c)::m=>aon L r fun r=>apW L c fun c=>aah L m fun m=>MP (put r c m) k
def ae3(l:List Nat)(k:List Nat→Option R):Option R:=match l with
 |[]=>k []
 |x::l=>ae3 l fun l=>k (x::l)
def aai(l:List (Nat×Nat))(k:List (Nat×Nat)→Option R):Option R:=match l with
 |[]=>k []
 |(x,y)::l=>aai l fun l=>k ((x,y)::l)
def ae4(S:St)(k:St→Option R):Option R:=ae3 (as5 S.tm S.mem) fun o=>match o with
 |[]=>k S
 |a::o=>aai (as6 names (a::o)) fun L=>match VA L (S.mem.map (·.1)) with
  |true=>ae2 L S.tm fun tm=>aah L S.mem fun m=>k ⟨tm,m⟩
  |false=>k S
def ae5(ops:Array Oper)(tm:jP)(o:Oper)(k:Bool→jP→Option R):Option R:=
 match o.guard with
 |none=>k true tm
 |some (j,want)=>match ops[j]? with
  |some oj=>match oj.dst with
   |some d=>match Px d tm with
    | .d (.bool b)=>match b with
     |true=>k want (put d (.d (.bool true)) tm)
     |false=>k (!want) (put d (.d (.bool false)) tm)
    | .yE vs=>match vs with
     |[]=>k false (put d (.yE []) tm)
     |_::_=>none
    |_=>none
   |none=>none
  |none=>none
def ama(X:Ctx)(K:Jm)(fn:Nat)(ops:Array Oper)(i:Nat)(S:St)(k:St→Log→Option R):Option R:=
 match ops[i]? with
 |none=>none
 |some o=>ae5 ops S.tm o fun b tm=>match b with
  |false=>k ⟨Ym (DN X.P fn) o.dst tm,S.mem⟩ .none
  |true=>(avV X K fn tm o).ae1 S.mem .none fun v m l=>bif Jp (DN X.P fn) o.dst then Hu v fun v=>k ⟨Um o.dst v tm,m⟩ l else none
def SV(X:Ctx)(K:Jm)(fn:Nat)(ops:Array Oper):List Nat→St→List (Nat×Log)→(St→List (Nat×Log)→Option R)→Option R
 |[],S,L,k=>k S L
 |i::is,S,L,k=>ama X K fn ops i S fun S' l=>SV X K fn ops is S' ((i,l)::L) k
def auU(X:Ctx)(ops:Array Oper)(L:List (Nat×Log)):Bool→Bool
 |false=>true
 |true=>X.P.follows .mixedOrders &&(backOk ops && QJ ops (Region.before ops) L)
def ae6(X:Ctx)(K:Jm)(tm:jP)(o1 o2 o3:Oper):Acc (Nat×Nat×V×V):=
 match o1,o2,o3 with
 |⟨some d1,.load t (.tmp ta),_,_,_,none⟩,⟨some d2,.move x,ty2,_,_,none⟩,⟨_,.call ⟨.value (.func f),args,_⟩,_,_,_,none⟩=>do
  ck (!(Nat.beq d1 d2) &&(amT args d1 d2 &&(avA d1 x &&(ED X.P t &&(Nat.beq (lC X.P t) 1 &&(!(Jk X.P t) && apm X f))))))
  let e←op' (elT X.P t)
  match Px ta tm,ev X.P tm ty2 x with
  | .sS r ver i off,.d (.int k n)=>do
   match←rd r with
   |some (.arr false false iU s rows)=>do
    ck (Nat.beq ver iU && Nat.ble (off+1) s)
    let row←op' rows[i]?
    let rs←op' (aeC (lC X.P e) row off)
    ck (TF (qm X.P e) rs)
    let b←op' (K f [.own lD 0,.d (.int k n)] [.arr false (qm X.P e) 0 (lC X.P e) rs]).o
    let out:=(K f [.own lD 0,.d (.int k n)] [.arr false (qm X.P e) 0 (lC X.P e) rs]).enc b
    let q←op' (VB out)
    ck (aaB (lC X.P e) (qm X.P e) q)
    wr r (.arr false false iU s (rows.set i (splice row off [.sl true (lC X.P e) q.2.2.2.2])))
    pure (d1,d2,.d (.int k n),.d (.int q.1 q.2.1))
   |_=> .fail
  |_,_=> .fail
 |_,_,_=> .fail
def abg(X:Ctx)(K:Jm)(fn:Nat)(ops:Array Oper)(p:Nat)(S:St)(k:St→Option R):Option R:=
 match ops[p]?,ops[p+1]?,ops[p+2]? with
 |some o1,some o2,some o3=>(ae6 X K S.tm o1 o2 o3).ae1 S.mem .none fun r m _=>
  bif Nat.blt r.1 (DN X.P fn) &&(Nat.blt r.2.1 (DN X.P fn) && Jp (DN X.P fn) o3.dst) then k ⟨Um o3.dst r.2.2.2 (put r.2.1 r.2.2.1 (put r.1 .undef S.tm)),m⟩ else none
 |_,_,_=>none
def UU(X:Ctx)(K:Jm)(fn id:Nat)(ops:Array Oper)(draw:Bool)(S:St)(k:St→List (Nat×Log)→Option R):Option R:=
 match X.Jd.fuse fn id with
 |0=>SV X K fn ops (List.range ops.size) S [] k
 |p+1=>match draw with
  |true=>none
  |false=>SV X K fn ops (List.range p) S [] fun S1 _=>abg X K fn ops p S1 fun S2=>SV X K fn ops ((List.range ops.size).drop (p+3)) S2 [] k
def ae7(X:Ctx)(K:Jm)(fn id:Nat)(ops:Array Oper)(draw:Bool)(S:St)(k:St→Option R):Option R:=
 UU X K fn id ops draw S fun S' L=>
  bif auU X ops L draw then(match Uy (X.Jd.keep fn id) S' with
   |some S''=>SQ S''.tm fun tm=>MP S''.mem fun m=>ae4 ⟨tm,m⟩ k
   |none=>none) else none
def rep(k:Nat)(x:V):jP→jP
 |[]=>[]
 |(j,y)::l=>match Nat.beq k j with
  |true=>(j,x)::l
  |false=>(j,y)::rep k x l
def atx(c:Operand)(b:Bool)(S:St):St:=match c with
 | .tmp i=>⟨rep i (.d (.bool b)) S.tm,S.mem⟩
 |_=>S
theorem anb{k:Nat}{x:V}:∀{l:jP},get k l=some x→rep k x l=l
 |[],h=>rfl
 |(j,y)::l,h=>by
  simp only[get] at h
  rw[rep]
  cases hb:Nat.beq k j with
  |true=>
   rw[hb] at h
   simp only[cond_true,Option.some.injEq] at h
   rw[h]
  |false=>
   rw[hb] at h
   simp only
   rw[anb h]
theorem anc{P:Program}{c:Operand}{b:Bool}{S:St}(h:ev P S.tm 0 c=.d (.bool b)):atx c b S=S:=by
 cases c with
 |tmp i=>
  simp only[ev,Px] at h
  cases hg:get i S.tm with
  |none=>rw[hg] at h;cases h
  |some v=>
   rw[hg] at h
   simp only at h
   subst h
   rw[atx,anb hg]
 |_=>rfl
def UW(X:Ctx)(K:Jm)(L:NY)(fn:Nat):Code→St→(Ex→St→Option R)→Option R
 | .skip,S,k=>k .normal S
 | .region id ops draw,S,k=>ae7 X K fn id ops draw S fun S'=>k .normal S'
 | .seq a b,S,k=>UW X K L fn a S fun e S'=>match e with
  | .normal=>UW X K L fn b S' k
  |e=>k e S'
 | .cond c a b,S,k=>match ev X.P S.tm 0 c with
  | .d (.bool t)=>(match t with
   |true=>UW X K L fn a (atx c true S) k
   |false=>UW X K L fn b (atx c false S) k)
  |_=>none
 | .block id c,S,k=>UW X K L fn c S fun e S'=>match e with
  | .exit j=>bif Nat.beq j id then k .normal S' else k (.exit j) S'
  |e=>k e S'
 | .loop c,S,k=>match(L (lid c) S).o with
  |some b=>(L (lid c) S).alt.go b fun r=>k r.1 r.2
  |none=>none
 | .exit id,S,k=>k (.exit id) S
 | .ret,S,k=>k .ret S
 |_,_,_=>none
def ae8(X:Ctx)(g:Func)(n:Nat)(S:St)(k:List Row→List Cell→Option R):Option R:=
 (do
  let rows←SE X.P S.tm g.results.toList g.resultTypes.toList
  let cells←QG X.Jd (rX n) (rX n)
  pure (rows,cells):Acc (List Row×List Cell)).ae1 S.mem .none fun r _ _=>k r.1 r.2
def bodyC(X:Ctx)(K:Jm)(L:NY)(f:Nat)(args:List V)(cells:List Cell)(k:List Row→List Cell→Option R):Option R:=
 match X.P.funcs[f]? with
 |some g=>match g.body with
  |some c=>bif !(Nat.ble cells.length lD && Nat.ble args.length g.ntmps) then none else(entry X f g args cells).ae1 (qj 0 cells) .none fun tm m _=>
   SQ tm fun tm=>MP m fun m=>UW X K L f c ⟨tm,m⟩ fun e S=>match e with
    | .normal=>ae8 X g cells.length S k
    | .ret=>ae8 X g cells.length S k
    | .exit _=>none
  |none=>none
 |none=>none
theorem aaj{α:Type}(A:Acc α):∀(m:Mem) (l:Log) (k:α→Mem→Log→Option R),A.ae1 m l k=(A.run m l).bind fun r=>k r.1 r.2.1 r.2.2:=by
 induction A with
 |ret a=>intro m l k;rfl
 |fail=>intro m l k;rfl
 |get i c ih=>intro m l k;exact ih _ _ _ _
 |set i x c ih=>intro m l k;exact ih _ _ _
 |opt o c ih=>intro m l k;cases o with
  |none=>rfl
  |some b=>exact ih b _ _ _
 |guard b c ih=>intro m l k;cases b with
  |false=>rfl
  |true=>exact ih _ _ _
theorem aoo(x:D)(k:D→Option R):apV x k=k x:=by
 cases x with
 |sl o s rows=>cases o<;>rfl
 |_=>rfl
mutual
theorem XL:∀(v:V) (k:V→Option R),Hu v k=k v
 | .d x,k=>by simp only[Hu,aoo]
 | .nil s,k=>by simp only[Hu]
 | .own r v,k=>by simp only[Hu]
 | .ptr r o,k=>by simp only[Hu]
 | .sS r v i o,k=>by simp only[Hu]
 | .sJ row o,k=>by simp only[Hu]
 | .clo f a b,k=>by simp only[Hu];rw[Jz a,Jz b]
 | .agg cs,k=>by simp only[Hu];rw[Jz cs]
 | .yE cs,k=>by simp only[Hu];rw[Jz cs]
 | .undef,k=>by simp only[Hu]
theorem Jz:∀(vs:List V) (k:List V→Option R),LQ vs k=k vs
 |[],k=>by simp only[LQ]
 |v::vs,k=>by simp only[LQ];rw[XL v,Jz vs]
end
theorem UY:∀(tm:jP) (k:jP→Option R),SQ tm k=k tm
 |[],k=>rfl
 |(t,v)::tm,k=>by simp only[SQ];rw[XL v,UY tm]
theorem ae9(c:Cell)(k:Cell→Option R):XK c k=k c:=by
 cases c with
 |box t cs=>simp only[XK,Jz]
 |_=>rfl
theorem NZ:∀(m:Mem) (k:Mem→Option R),MP m k=k m
 |[],k=>rfl
 |(t,v)::m,k=>by simp only[MP];rw[ae9 v,NZ m]
theorem aak(L:List (Nat×Nat))(r:Nat)(k:Nat→Option R):aon L r k=k (ren L r):=by
 unfold aon ren
 cases get r L<;>rfl
mutual
theorem agi(L:List (Nat×Nat)):∀(v:V) (k:V→Option R),OY L v k=k (Oi L v)
 | .d x,k=>by simp only[OY,Oi]
 | .nil s,k=>by simp only[OY,Oi]
 | .own r v,k=>by simp only[OY,Oi,aak]
 | .ptr r o,k=>by simp only[OY,Oi,aak]
 | .sS r v i o,k=>by simp only[OY,Oi,aak]
 | .sJ row o,k=>by simp only[OY,Oi]
 | .clo f a b,k=>by simp only[OY,Oi];rw[MB L a,MB L b]
 | .agg cs,k=>by simp only[OY,Oi];rw[MB L cs]
 | .yE vs,k=>by simp only[OY,Oi];rw[MB L vs]
 | .undef,k=>by simp only[OY,Oi]
theorem MB(L:List (Nat×Nat)):∀(vs:List V) (k:List V→Option R),PZ L vs k=k (QI L vs)
 |[],k=>by simp only[PZ,QI]
 |v::vs,k=>by simp only[PZ,QI];rw[agi L v,MB L vs]
end
theorem adW(L:List (Nat×Nat)):∀(tm:jP) (k:jP→Option R),ae2 L tm k=k (aaA L tm)
 |[],k=>rfl
 |(t,v)::tm,k=>by simp only[ae2,aaA];rw[agi L v,adW L tm]
theorem apX(L:List (Nat×Nat))(c:Cell)(k:Cell→Option R):apW L c k=k (ac0 L c):=by
 cases c with
 |box t cs=>simp only[apW,ac0,MB]
 |_=>rfl
theorem abh(L:List (Nat×Nat)):∀(m:Mem) (k:Mem→Option R),aah L m k=k (MH L m)
 |[],k=>rfl
 |(r,c)::m,k=>by simp only[aah,MH,aak,apX];rw[abh L m,NZ]
theorem adX:∀(l:List Nat) (k:List Nat→Option R),ae3 l k=k l
 |[],k=>rfl
 |x::l,k=>by simp only[ae3];rw[adX l]
theorem abj:∀(l:List (Nat×Nat)) (k:List (Nat×Nat)→Option R),aai l k=k l
 |[],k=>rfl
 |(x,y)::l,k=>by simp only[aai];rw[abj l]
theorem aop(S:St)(k:St→Option R):ae4 S k=k (canon S):=by
 unfold ae4 canon
 rw[adX]
 cases as5 S.tm S.mem with
 |nil=>rfl
 |cons a o=>
  simp only[abj,aeJ]
  cases VA (as6 names (a::o)) (S.mem.map (·.1)) with
  |true=>simp only[adW,abh]
  |false=>rfl
def EU{α:Type}(a b:Acc α):Prop:=∀m l,a.run m l=b.run m l
theorem EU.refl{α:Type}(a:Acc α):EU a a:=fun _ _=>rfl
theorem EU.bind{α β:Type}{a:Acc α}{f g:α→Acc β}(h:∀x,EU (f x) (g x)):EU (a>>=f) (a>>=g):=by
 intro m l
 rw[run_bind,run_bind]
 cases a.run m l with
 |none=>rfl
 |some r=>obtain⟨x,m,l⟩:=r;exact h x m l
theorem EU.enc{α β γ:Type}{o:Option β}{enc:β→α}{f:α→Acc γ}:EU (op' o>>=fun b=>f (enc b)) (op' (o.map enc)>>=f):=by
 intro m l
 rw[run_bind,run_bind]
 cases o<;>rfl
theorem amb{X:Ctx}{K:Jm}{fn dst f:Nat}{args:List V}{m:Mem}{l:Log}:(al9 X K fn dst f args).run m l=(Vy X K.to fn dst f args).run m l:=by
 revert m l
 show EU _ _
 unfold al9 Vy
 refine EU.bind fun g=>EU.bind fun _=>EU.bind fun args=>EU.bind fun cells=>EU.bind fun⟨args,KL⟩=>EU.bind fun _=> ?_
 exact EU.enc (o:=(K f args cells).o) (enc:=(K f args cells).enc) (f:=fun out=>do
  ck (Nat.beq out.1.length g.resultTypes.size)
  ck (bif(!(KL.isEmpty) &&(SC X.P (X.Jd.Zd fn dst) 0 g.resultTypes.toList &&(LH X.Jd _ 0 [] _).isEmpty)) then out.1.all dM else true)
  freeze (bif(!(KL.isEmpty) &&(SC X.P (X.Jd.Zd fn dst) 0 g.resultTypes.toList &&(LH X.Jd _ 0 [] _).isEmpty)) then[] else KL)
  Yl X dst out.2 0 (LH X.Jd _ 0 [] _)
  let vs←Ut X (X.Jd.Zd fn dst) dst out.1 0 g.resultTypes.toList
  match vs with
  |[v]=>pure v
  |vs=>pure (.yE vs))
theorem apY{X:Ctx}{K:Jm}{fn:Nat}{tm:jP}{o:Oper}{m:Mem}{l:Log}:(avV X K fn tm o).run m l=(vop X K.to fn tm o).run m l:=by
 obtain⟨dst,op,type,pos,after,guard⟩:=o
 cases op<;>try rfl
 case call c=>
  obtain⟨callee,args,tys⟩:=c
  cases callee with
  |value f=>
   simp only[avV,vop]
   cases ev X.P tm 0 f with
   |clo g a b=>exact amb
   |_=>rfl
  |invoke r m=>rfl
  |builtin b=>cases b<;>rfl
 case makeFunc f a b=>cases f<;>rfl
 case slice a b c d e=>cases e<;>rfl
theorem amc(ops:Array Oper)(tm:jP)(o:Oper)(k:Bool→jP→Option R):ae5 ops tm o k=(zY ops tm o).bind fun r=>k r.1 r.2:=by
 unfold ae5 zY
 cases o.guard with
 |none=>rfl
 |some jw=>
  obtain⟨j,want⟩:=jw
  simp only
  cases ops[j]? with
  |none=>rfl
  |some oj=>
   simp only
   cases oj.dst with
   |none=>rfl
   |some d=>
    simp only
    cases Px d tm with
    |d x=>cases x with
     |bool b=>cases b<;>rfl
     |_=>rfl
    |yE vs=>cases vs<;>rfl
    |_=>rfl
theorem aoq(X:Ctx)(K:Jm)(fn:Nat)(ops:Array Oper)(i:Nat)(S:St)(k:St→Log→Option R):ama X K fn ops i S k=(yC X K.to fn ops i S).bind fun r=>k r.1 r.2:=by
 unfold ama yC
 cases ops[i]? with
 |none=>rfl
 |some o=>
  simp only[amc]
  cases zY ops S.tm o with
  |none=>rfl
  |some r=>
   obtain⟨b,tm⟩:=r
   cases b with
   |false=>rfl
   |true=>
    simp only[Option.bind_some,aaj,apY]
    cases(vop X K.to fn tm o).run S.mem .none with
    |none=>rfl
    |some r=>
     obtain⟨v,m,l⟩:=r
     simp only[Option.bind_some]
     cases Jp (DN X.P fn) o.dst with
     |false=>rfl
     |true=>simp only[cond_true,XL];rfl
theorem UZ(X:Ctx)(K:Jm)(fn:Nat)(ops:Array Oper):∀(is:List Nat) (S:St) (L:List (Nat×Log)) (k:St→List (Nat×Log)→Option R),SV X K fn ops is S L k=(uK X K.to fn ops is S L).bind fun r=>k r.1 r.2
 |[],S,L,k=>rfl
 |i::is,S,L,k=>by
  simp only[SV,XH,aoq]
  cases yC X K.to fn ops i S with
  |none=>rfl
  |some r=>simp only[Option.bind_some];exact UZ X K fn ops is _ _ k
theorem agj{X:Ctx}{K:Jm}{tm:jP}{o1 o2 o3:Oper}{m:Mem}{l:Log}:(ae6 X K tm o1 o2 o3).run m l=(Lc X K.to tm o1 o2 o3).run m l:=by
 revert m l
 show EU _ _
 unfold ae6 Lc
 split
 ·rename_i d1 t ta _ _ _ d2 x ty2 _ _ _ f args _ _ _ _
  refine EU.bind fun _=>EU.bind fun e=> ?_
  generalize Px ta tm=ga
  generalize ev X.P tm ty2 x=kv
  cases ga with
  |sS r ver i off=>
   cases kv with
   |d y=>
    cases y with
    |int k n=>
     refine EU.bind fun c=> ?_
     cases c with
     |none=>exact EU.refl _
     |some c=>cases c with
      |arr fz fl iU s rows=>cases fz with
       |true=>exact EU.refl _
       |false=>cases fl with
        |true=>exact EU.refl _
        |false=>
         refine EU.bind fun _=>EU.bind fun row=>EU.bind fun rs=>EU.bind fun _=> ?_
         exact EU.enc (o:=(K f [.own lD 0,.d (.int k n)] [.arr false (qm X.P e) 0 (lC X.P e) rs]).o) (enc:=(K f [.own lD 0,.d (.int k n)] [.arr false (qm X.P e) 0 (lC X.P e) rs]).enc) (f:=fun out=>do
          let q←op' (VB out)
          ck (aaB (lC X.P e) (qm X.P e) q)
          wr r (.arr false false iU s (rows.set i (splice row off [.sl true (lC X.P e) q.2.2.2.2])))
          pure (d1,d2,V.d (.int k n),V.d (.int q.1 q.2.1)))
      |_=>exact EU.refl _
    |_=>exact EU.refl _
   |_=>exact EU.refl _
  |_=>exact EU.refl _
 ·rename_i hno
  split
  ·exfalso
   apply hno<;>rfl
  ·exact EU.refl _
theorem agk(X:Ctx)(K:Jm)(fn:Nat)(ops:Array Oper)(p:Nat)(S:St)(k:St→Option R):abg X K fn ops p S k=(DR X K.to fn ops p S).bind k:=by
 simp only[abg,UN]
 cases ops[p]? with
 |none=>rfl
 |some o1=>cases ops[p+1]? with
  |none=>rfl
  |some o2=>cases ops[p+2]? with
   |none=>rfl
   |some o3=>
    simp only[aaj,agj]
    cases(Lc X K.to S.tm o1 o2 o3).run S.mem .none with
    |none=>rfl
    |some r=>
     simp only[Option.bind_some]
     cases(Nat.blt r.1.1 (DN X.P fn) &&(Nat.blt r.1.2.1 (DN X.P fn) && Jp (DN X.P fn) o3.dst))<;>rfl
theorem ada(X:Ctx)(K:Jm)(fn id:Nat)(ops:Array Oper)(draw:Bool)(S:St)(k:St→List (Nat×Log)→Option R):UU X K fn id ops draw S k=(yK X K.to fn id ops draw S).bind fun r=>k r.1 r.2:=by
 simp only[UU,PY]
 cases X.Jd.fuse fn id with
 |zero=>simp only[UZ]
 |succ p=>
  cases draw with
  |true=>rfl
  |false=>
   simp only[UZ,agk]
   cases uK X K.to fn ops (List.range p) S [] with
   |none=>rfl
   |some r=>
    simp only[Option.bind_some]
    cases DR X K.to fn ops p r.1<;>rfl
theorem amd(X:Ctx)(K:Jm)(fn id:Nat)(ops:Array Oper)(draw:Bool)(S:St)(k:St→Option R):ae7 X K fn id ops draw S k=(region X K.to fn id ops draw S).bind k:=by
 simp only[ae7,XI,ada]
 cases yK X K.to fn id ops draw S with
 |none=>rfl
 |some r=>
  simp only[Option.bind_some]
  have hp:(match Uy (X.Jd.keep fn id) r.1 with
   |some S''=>SQ S''.tm fun tm=>MP S''.mem fun m=>ae4 ⟨tm,m⟩ k
   |none=>none)=(prune (X.Jd.keep fn id) r.1).bind k:=by
   unfold prune
   cases Uy (X.Jd.keep fn id) r.1 with
   |none=>rfl
   |some S''=>simp only[UY,NZ,aop];rfl
  rw[hp]
  cases draw with
  |false=>rfl
  |true=>
   simp only[auU]
   cases(X.P.follows .mixedOrders &&(backOk ops && QJ ops (Region.before ops) r.2))<;>rfl
theorem ane(X:Ctx)(K:Jm)(L:NY)(fn:Nat)(c:Code):∀(S:St) (k:Ex→St→Option R),UW X K L fn c S k=(EK X K.to L.to fn c S).bind fun r=>k r.1 r.2:=by
 induction c with
 |skip=>intro S k;rfl
 |region id ops draw=>
  intro S k
  simp only[UW,EK,amd]
  cases region X K.to fn id ops draw S<;>rfl
 |seq a b iha ihb=>
  intro S k
  simp only[UW,EK,iha]
  cases EK X K.to L.to fn a S with
  |none=>rfl
  |some r=>
   obtain⟨e,S'⟩:=r
   cases e with
   |normal=>exact ihb S' k
   |exit id=>rfl
   |ret=>rfl
 |cond c a b iha ihb=>
  intro S k
  simp only[UW,EK,TI]
  cases hev:ev X.P S.tm 0 c with
  |d x=>cases x with
   |bool t=>cases t with
    |true=>
     simp only[anc hev]
     exact iha S k
    |false=>
     simp only[anc hev]
     exact ihb S k
   |_=>rfl
  |_=>rfl
 |block id c ih=>
  intro S k
  simp only[UW,EK,ih]
  cases EK X K.to L.to fn c S with
  |none=>rfl
  |some r=>
   obtain⟨e,S'⟩:=r
   cases e with
   |normal=>rfl
   |ret=>rfl
   |exit j=>
    simp only[Option.bind_some]
    cases Nat.beq j id<;>rfl
 |loop c ih=>
  intro S k
  simp only[UW,EK,NY.to,UR.val,Alt.go_eq]
  cases(L (lid c) S).o<;>rfl
 |exit id=>intro S k;rfl
 |ret=>intro S k;rfl
 |_=>intro S k;rfl
theorem adY(X:Ctx)(g:Func)(n:Nat)(S:St)(k:List Row→List Cell→Option R):ae8 X g n S k=(leave X g n S).bind fun r=>k r.1 r.2:=by
 simp only[ae8,leave,aaj]
 split
 ·rename_i r m l he;simp only[he];rfl
 ·rename_i he;simp only[he];rfl
theorem apZ(X:Ctx)(K:Jm)(L:NY)(f:Nat)(args:List V)(cells:List Cell)(k:List Row→List Cell→Option R):bodyC X K L f args cells k=(YR X K.to L.to f args cells).bind fun r=>k r.1 r.2:=by
 simp only[bodyC,YR]
 cases X.P.funcs[f]? with
 |none=>rfl
 |some g=>
  simp only
  cases g.body with
  |none=>rfl
  |some c=>
   simp only
   generalize (!(Nat.ble cells.length lD && Nat.ble args.length g.ntmps))=q
   cases q with
   |true=>rfl
   |false=>
    simp only[cond_false,aaj]
    cases(entry X f g args cells).run (qj 0 cells) .none with
    |none=>rfl
    |some r=>
     obtain⟨tm,m,l⟩:=r
     simp only[Option.bind_some,UY,NZ,ane]
     cases EK X K.to L.to f c ⟨tm,m⟩ with
     |none=>rfl
     |some r=>
      obtain⟨e,S⟩:=r
      cases e with
      |normal=>simp only[Option.bind_some,adY]
      |ret=>simp only[Option.bind_some,adY]
      |exit j=>rfl
end
theorem ap0{X:Ctx}{K:Jm}{L:NY}{f:Nat}{args:List V}{cells:List Cell}{r:List Row×List Cell}(hp:X.Vt f=none)(hK:KLe K.to (call X))(hL:LOk X (call X) f L.to (loops (codeOf X.P f)))
  (h:bodyC X K L f args cells (fun a b=>some (a,b))=some r):call X f args cells=some r:=by
 refine apU hp hK hL ?_
 rw[apZ] at h
 cases hb:YR X K.to L.to f args cells with
 |none=>rw[hb] at h;cases h
 |some q=>rw[hb] at h;exact h
theorem aty{X:Ctx}{K:Jm}{L:NY}{fn:Nat}{c:Code}{S:St}{r:Ex×St}(hK:KLe K.to (call X))(hL:LOk X (call X) fn L.to (loops c))(h:UW X K L fn c S (fun a b=>some (a,b))=some r):den X (call X) fn c S=some r:=by
 refine atw hK hL ?_
 rw[ane] at h
 cases hb:EK X K.to L.to fn c S with
 |none=>rw[hb] at h;cases h
 |some q=>rw[hb] at h;exact h
end Go.Vm
namespace Go.Vm
open Go
def iterM{σ τ:Type}(b:σ→Option (σ⊕τ)):Nat→σ→Option τ
 |0,_=>none
 |n+1,s=>match b s with
  |some (.inl s')=>iterM b n s'
  |some (.inr t)=>some t
  |none=>none
theorem U0{σ τ:Type}{b:σ→Option (σ⊕τ)}:∀{n k:Nat} {s:σ} {t:τ},iterM b n s=some t→n≤k→iterM b k s=some t
 |0,_,_,_,h,_=>by simp[iterM] at h
 |n+1,0,_,_,_,hk=>by omega
 |n+1,k+1,s,t,h,hk=>by
  simp only[iterM] at h⊢
  cases hb:b s with
  |none=>simp[hb] at h
  |some q=>
   rw[hb] at h
   cases q with
   |inl s'=>exact U0 h (by omega)
   |inr t'=>exact h
noncomputable def iR{σ τ:Type}(b:σ→Option (σ⊕τ))(s:σ):Option τ:=lim fun n=>iterM b n s
theorem VY{σ τ:Type}{b:σ→Option (σ⊕τ)}{s:σ}{t:τ}{n:Nat}(h:iterM b n s=some t):iR b s=some t:=by
 refine EJ h fun m y hy=> ?_
 have h1:=U0 h (Nat.le_max_left n m)
 rw[U0 hy (Nat.le_max_right n m)] at h1
 exact Option.some.inj h1
theorem U1{σ τ:Type}{b:σ→Option (σ⊕τ)}{s:σ}{t:τ}(h:iR b s=some t):∃n,iterM b n s=some t:=OX h
theorem jU{σ τ:Type}{b:σ→Option (σ⊕τ)}{s s':σ}(h:b s=some (.inl s')):iR b s=iR b s':=by
 cases hl:iR b s' with
 |some t=>
  obtain⟨n,hn⟩:=U1 hl
  exact VY (n:=n+1) (by simp only[iterM,h];exact hn)
 |none=>
  cases hs:iR b s with
  |none=>rfl
  |some t=>
   obtain⟨n,hn⟩:=U1 hs
   cases n with
   |zero=>simp[iterM] at hn
   |succ n=>
    simp only[iterM,h] at hn
    rw[VY hn] at hl
    cases hl
theorem iW{σ τ:Type}{b:σ→Option (σ⊕τ)}{s:σ}{t:τ}(h:b s=some (.inr t)):iR b s=some t:=
 VY (n:=1) (by simp only[iterM,h])
theorem jC{σ τ:Type}{b:σ→Option (σ⊕τ)}{t:τ}(st:Nat→σ)(n:Nat)(h:∀i,i<n→b (st i)=some (.inl (st (i+1))))(he:b (st n)=some (.inr t)):∀i,i≤n→iR b (st i)=some t:=by
 intro i hi
 obtain⟨d,rfl⟩:∃d,n=i+d:=⟨n - i,by omega⟩
 induction d generalizing i with
 |zero=>exact iW he
 |succ d ih=>
  rw[jU (h i (by omega)),ih (i+1) (fun j hj=>h j (by omega)) (by rw[show i+1+d=i+(d+1) by omega];exact he) (by omega)]
theorem ame{σ τ:Type}{b:σ→Option (σ⊕τ)}{D:St→Option (Ex×St)}{tm:σ→St}{tx:τ→Ex×St}
  (h:∀s r,b s=some r→D (tm s)=some (match r with| .inl s'=>(.normal,tm s')| .inr t=>tx t)) (hx:∀t,(tx t).1≠.normal) {s:σ} {t:τ} (hl:iR b s=some t):NQ D (tm s)=some (tx t):=by
 obtain⟨n,hn⟩:=U1 hl
 induction n generalizing s with
 |zero=>simp[iterM] at hn
 |succ n ih=>
  simp only[iterM] at hn
  cases hb:b s with
  |none=>simp[hb] at hn
  |some q=>
   rw[hb] at hn
   have hd:=h s q hb
   cases q with
   |inl s'=>
    have hl':=ih (VY hn) hn
    obtain⟨k,hk⟩:=UQ hl'
    refine VX (n:=k+1) ?_
    simp only[iter,hd]
    exact hk
   |inr t'=>
    simp only[Option.some.injEq] at hn
    subst hn
    refine VX (n:=1) ?_
    simp only[iter,hd]
    have:=hx t'
    cases ht:tx t' with
    |mk e S=>cases e with
     |normal=>rw[ht] at this;exact absurd rfl this
     |exit id=>rfl
     |ret=>rfl
def az1(X:Ctx)(f n:Nat)(c:Code)(P:St→UR (Ex×St)):Prop:=lid c=n∧∀S r,(P S).val=some r→NQ (den X (call X) f c) S=some r
def findLoop(n:Nat):Code→Option Code
 | .seq a b=>match findLoop n a with
  |some c=>some c
  |none=>findLoop n b
 | .cond _ a b=>match findLoop n a with
  |some c=>some c
  |none=>findLoop n b
 | .block _ c=>findLoop n c
 | .loop c=>bif Nat.beq (lid c) n then some c else findLoop n c
 |_=>none
def QZ(P:Program)(f n:Nat):Code:=match findLoop n (codeOf P f) with
 |some c=>c
 |none=> .skip
theorem ap1{X:Ctx}{K:Jm}{L:NY}{f:Nat}{args:List V}{cells:List Cell}{ρ:Type}{o:Option ρ}{enc:ρ→List Row×List Cell}(hp:X.Vt f=none)(hK:KLe K.to (call X))(hL:LOk X (call X) f L.to (loops (codeOf X.P f)))
  (h:bodyC X K L f args cells (fun a b=>some (a,b))=o.bind fun r=>some (enc r)) {r:ρ} (hr:o=some r):call X f args cells=some (enc r):=by
 refine ap0 hp hK hL ?_
 rw[h,hr]
 rfl
theorem ap2{X:Ctx}{K:Jm}{L:NY}{f:Nat}{c:Code}{σ τ:Type}{b:σ→Option (σ⊕τ)}{tm:σ→St}{tx:τ→Ex×St}(hK:KLe K.to (call X))(hL:LOk X (call X) f L.to (loops c))
  (h:∀s,UW X K L f c (tm s) (fun a b=>some (a,b))=(b s).bind fun r=>some (match r with| .inl s'=>(.normal,tm s')| .inr t=>tx t)) (hx:∀t,(tx t).1≠.normal) {s:σ} {t:τ} (hl:iR b s=some t):
  NQ (den X (call X) f c) (tm s)=some (tx t):=by
 refine ame (fun s r hr=> ?_) hx hl
 refine aty hK hL ?_
 rw[h s,hr]
 rfl
theorem ap3{α β:Type}(c:Bool)(a b:Option α)(f:α→Option β):(bif c then a else b).bind f=bif c then a.bind f else b.bind f:=by cases c<;>rfl
theorem aor{α β γ:Type}(o:Option α)(g:α→Option β)(f:β→Option γ):(o.bind g).bind f=o.bind fun x=>(g x).bind f:=by cases o<;>rfl
theorem ah{α β:Type}(a:α)(f:α→Option β):(some a).bind f=f a:=rfl
theorem aos{α β:Type}(f:α→Option β):(none:Option α).bind f=none:=rfl
def aot{α β:Type}(o:Option α)(n:Option β)(f:α→Option β):Option β:=match o with
 |none=>n
 |some x=>f x
def letE{α β:Type}(x:α)(f:α→Option β):Option β:=f x
theorem adZ{α β γ:Type}(o:Option α)(n:Option β)(f:α→Option β)(g:β→Option γ):(aot o n f).bind g=aot o (n.bind g) fun x=>(f x).bind g:=by cases o<;>rfl
theorem ad1{α β γ δ:Type}(r:α⊕β)(f:α→Option γ)(g:β→Option γ)(k:γ→Option δ):(xZ r f g).bind k=xZ r (fun x=>(f x).bind k) (fun y=>(g y).bind k):=by cases r<;>rfl
theorem ad2{α β γ:Type}(x:α)(f:α→Option β)(g:β→Option γ):(letE x f).bind g=letE x fun y=>(f y).bind g:=rfl
theorem az1.at{X:Ctx}{f n:Nat}{c:Code}{P:St→UR (Ex×St)}{L:NY}(h:az1 X f n c P)(hL:∀S,L n S=P S):∀S r,L.to (lid c) S=some r→NQ (den X (call X) f c) S=some r:=by
 intro S r hr
 rw[h.1,NY.to,hL] at hr
 exact h.2 S r hr
end Go.Vm
namespace Go.Vm
open Go
set_option linter.unusedVariables false
structure Pt(β:Type) where
 α:Type
 enc:α→β
 dec:β→Option α
 ok:∀b x,dec b=some x→b=enc x
noncomputable section
def pS:Pt V:=⟨List UInt8,fun s=> .d (.str s),fun v=>match v with| .d (.str s)=>some s|_=>none,by
 intro b x h;split at h<;>simp_all⟩
def pK(k:IntKind):Pt V:=⟨Int,fun n=> .d (.int k n),fun v=>match v with| .d (.int k' n)=>(match decEq k' k with| .isTrue _=>some n| .isFalse _=>none)|_=>none,by
 intro b x h;split at h
 ·split at h<;>simp_all
 ·cases h⟩
def pI:Pt V:=pK .i64
def pB:Pt V:=⟨Bool,fun s=> .d (.bool s),fun v=>match v with| .d (.bool s)=>some s|_=>none,by
 intro b x h;split at h<;>simp_all⟩
def pL(o:Bool)(s:Nat):Pt V:=⟨List Row,fun r=> .d (.sl o s r),fun v=>match v with| .d (.sl o' s' r)=>bif(o==o') && Nat.beq s s' then some r else none|_=>none,by
 intro b x h;split at h
 ·rename_i o' s' r
  cases ho:(o==o')<;>cases hs:Nat.beq s s'<;>simp only[ho,hs,Bool.and_true,Bool.and_false,Bool.false_and,cond_true,cond_false,Option.some.injEq] at h
  all_goals first|cases h;done|skip
  cases h
  rw[beq_iff_eq] at ho
  rw[Nat.eq_of_beq_eq_true hs,ho]
 ·cases h⟩
def pZ{β:Type}(v:β)(t:β→Bool)(h:∀b,t b=true→b=v):Pt β:=⟨Unit,fun _=>v,fun b=>bif t b then some () else none,by
 intro b x e
 cases ht:t b with
 |true=>exact h b ht
 |false=>rw[ht] at e;cases e⟩
def abk(s:Nat):Pt V:=pZ (.nil s) (fun v=>match v with| .nil t=>Nat.beq s t|_=>false) (by
 intro b h;split at h
 ·rw[Nat.eq_of_beq_eq_true h]
 ·cases h)
theorem ap4{a b:Bool}(h:(a && b)=true):a=true∧b=true:=by simpa using h
def pO(r n:Nat):Pt V:=pZ (.own r n) (fun v=>match v with| .own a b=>Nat.beq r a && Nat.beq n b|_=>false) (by
 intro b h;split at h
 ·obtain⟨h1,h2⟩:=ap4 h
  rw[Nat.eq_of_beq_eq_true h1,Nat.eq_of_beq_eq_true h2]
 ·cases h)
def pP(r n:Nat):Pt V:=pZ (.ptr r n) (fun v=>match v with| .ptr a b=>Nat.beq r a && Nat.beq n b|_=>false) (by
 intro b h;split at h
 ·obtain⟨h1,h2⟩:=ap4 h
  rw[Nat.eq_of_beq_eq_true h1,Nat.eq_of_beq_eq_true h2]
 ·cases h)
def az2{β:Type}(p:Pt β)(q:Pt (List β)):Pt (List β):=⟨p.α×q.α,fun x=>p.enc x.1::q.enc x.2,fun l=>match l with|a::b=>(match p.dec a with|some x=>(match q.dec b with|some y=>some (x,y)|none=>none)|none=>none)|[]=>none,by
 intro b x h;split at h
 ·split at h
  ·rename_i hp
   split at h
   ·rename_i hq
    cases h
    rw[p.ok _ _ hp,q.ok _ _ hq]
   ·cases h
  ·cases h
 ·cases h⟩
def aKz{β:Type}:Pt (List β):=pZ [] (fun l=>match l with|[]=>true|_=>false) (by intro b h;split at h<;>simp_all)
def pl{β:Type}(l:List (Pt β)):Pt (List β):=List.rec aKz (fun p _ q=>az2 p q) l
def atz(f:Nat)(a b:List (Pt V)):Pt V:=⟨(pl a).α×(pl b).α,fun x=> .clo f ((pl a).enc x.1) ((pl b).enc x.2),fun v=>match v with| .clo g x y=>bif Nat.beq f g then(match(pl a).dec x with|some x=>(match(pl b).dec y with|some y=>some (x,y)|none=>none)|none=>none) else none|_=>none,by
 intro v x h;split at h
 ·rename_i g u w
  cases ht:Nat.beq f g with
  |false=>rw[ht] at h;cases h
  |true=>
   rw[ht,cond_true] at h
   split at h
   ·rename_i hp
    split at h
    ·rename_i hq
     cases h
     rw[(pl a).ok _ _ hp,(pl b).ok _ _ hq,Nat.eq_of_beq_eq_true ht]
    ·cases h
   ·cases h
 ·cases h⟩
def iV(a:List (Pt V)):Pt V:=⟨(pl a).α,fun x=> .agg ((pl a).enc x),fun v=>match v with| .agg x=>(pl a).dec x|_=>none,by
 intro v x h;split at h
 ·rw[(pl a).ok _ _ h]
 ·cases h⟩
def cB(t:TypeId)(a:List (Pt V)):Pt Cell:=⟨(pl a).α,fun x=> .box t ((pl a).enc x),fun v=>match v with| .box u x=>bif Nat.beq t u then(pl a).dec x else none|_=>none,by
 intro v x h;split at h
 ·rename_i u y
  cases ht:Nat.beq t u with
  |false=>rw[ht] at h;cases h
  |true=>
   rw[ht,cond_true] at h
   rw[(pl a).ok _ _ h,Nat.eq_of_beq_eq_true ht]
 ·cases h⟩
def cA(z l:Bool)(n s:Nat):Pt Cell:=⟨List Row,fun r=> .arr z l n s r,fun v=>match v with| .arr z' l' n' s' r=>bif(z==z') &&((l==l') &&(Nat.beq n n' && Nat.beq s s')) then some r else none|_=>none,by
 intro b x h;split at h
 ·rename_i z' l' n' s' r
  cases ht:((z==z') &&((l==l') &&(Nat.beq n n' && Nat.beq s s'))) with
  |false=>rw[ht] at h;cases h
  |true=>
   rw[ht] at h
   obtain⟨h1,h2⟩:=ap4 ht
   obtain⟨h2,h3⟩:=ap4 h2
   obtain⟨h3,h4⟩:=ap4 h3
   cases h
   rw[beq_iff_eq] at h1 h2
   rw[h1,h2,Nat.eq_of_beq_eq_true h3,Nat.eq_of_beq_eq_true h4]
 ·cases h⟩
def fU{β:Type}(n:Nat)(p:Pt β):Pt (Nat×β):=⟨p.α,fun x=>(n,p.enc x),fun y=>bif Nat.beq n y.1 then p.dec y.2 else none,by
 intro y x h
 cases ht:Nat.beq n y.1 with
 |false=>rw[ht] at h;cases h
 |true=>
  rw[ht,cond_true] at h
  rw[←p.ok _ _ h,Nat.eq_of_beq_eq_true ht]⟩
def La(t:List (Pt (Nat×V)))(m:List (Pt (Nat×Cell))):Pt St:=⟨(pl t).α×(pl m).α,fun x=>⟨(pl t).enc x.1,(pl m).enc x.2⟩,fun S=>match(pl t).dec S.tm with|some x=>(match(pl m).dec S.mem with|some y=>some (x,y)|none=>none)|none=>none,by
 intro S x h;split at h
 ·rename_i hp
  split at h
  ·rename_i hq
   cases h
   cases S
   have e1:=(pl t).ok _ _ hp
   have e2:=(pl m).ok _ _ hq
   simp only at e1 e2
   rw[e1,e2]
  ·cases h
 ·cases h⟩
def pOr{β:Type}(p q:Pt β):Pt β:=⟨p.α⊕q.α,fun x=>match x with| .inl x=>p.enc x| .inr y=>q.enc y,fun b=>match p.dec b with|some x=>some (.inl x)|none=>(match q.dec b with|some y=>some (.inr y)|none=>none),by
 intro b x h;split at h
 ·rename_i hp
  cases h
  exact p.ok _ _ hp
 ·split at h
  ·rename_i hq
   cases h
   exact q.ok _ _ hq
  ·cases h⟩
structure fH where
 f:Nat
 p:Pt (List V)
 q:Pt (List Cell)
 ρ:Type
 enc:ρ→List Row×List Cell
@[reducible] def sg(f:Nat)(a:List (Pt V))(c:List (Pt Cell)){ρ:Type}(enc:ρ→List Row×List Cell):fH:=⟨f,pl a,pl c,ρ,enc⟩
abbrev fH.α(S:fH):Type:=S.p.α×S.q.α
def fH.ok(S:fH)(X:Ctx)(o:S.α→Option S.ρ):Prop:=∀x r,o x=some r→call X S.f (S.p.enc x.1) (S.q.enc x.2)=some (S.enc r)
structure FE(X:Ctx) where
 f:Nat
 P:List V→List Cell→Option (Res (List Row×List Cell))
 ok:∀a c q r,P a c=some q→q.val=some r→call X f a c=some r
def fe{X:Ctx}{S:fH}{o:S.α→Option S.ρ}(h:S.ok X o):FE X:=⟨S.f,fun a c=>match S.p.dec a with|some x=>(match S.q.dec c with|some y=>some ⟨S.ρ,o (x,y),S.enc⟩|none=>none)|none=>none,by
 intro a c q r hq hr
 split at hq
 ·rename_i x hx
  split at hq
  ·rename_i y hy
   cases hq
   obtain⟨z,hz,rfl⟩:=Res.abf hr
   rw[S.p.ok _ _ hx,S.q.ok _ _ hy]
   exact h (x,y) z hz
  ·cases hq
 ·cases hq⟩
def kt{X:Ctx}(l:List (FE X)):Jm:=List.rec (fun _ _ _=> .none) (fun e _ K g a c=>bif Nat.beq g e.f then(match e.P a c with|some r=>r|none=>K g a c) else K g a c) l
theorem auV{X:Ctx}(l:List (FE X)):KLe (kt l).to (call X):=by
 induction l with
 |nil=>exact fun _ _ _ _ h=>by simp[Jm.to,kt,Res.none,Res.val] at h
 |cons e l ih=>
  intro g a c r hr
  have hr':(bif Nat.beq g e.f then(match e.P a c with|some r=>r|none=>kt l g a c) else kt l g a c).val=some r:=hr
  by_cases h:g=e.f
  ·subst h
   simp only[Nat.beq_refl,cond_true] at hr'
   split at hr'
   ·rename_i q hq
    exact e.ok a c q r hq hr'
   ·exact ih _ a c r hr'
  ·rw[uN h] at hr'
   exact ih g a c r hr'
structure LE(X:Ctx)(f:Nat) where
 n:Nat
 c:Code
 P:St→Option (UR (Ex×St))
 hn:lid c=n
 ok:∀S q r,P S=some q→q.val=some r→NQ (den X (call X) f c) S=some r
def lt{X:Ctx}{f:Nat}(l:List (LE X f)):NY:=List.rec (fun _ _=> .none) (fun e _ L n S=>bif Nat.beq n e.n then(match e.P S with|some r=>r|none=> .none) else L n S) l
def apart(l:List Nat):Bool:=match l with
 |[]=>true
 |x::l=>l.all (fun y=> !(Nat.beq x y)) && apart l
theorem ap5{X:Ctx}{f:Nat}:∀(l:List (LE X f)),apart (l.map LE.n)=true→∀e,e∈l→∀S r,(lt l e.n S).val=some r→NQ (den X (call X) f e.c) S=some r
 |[],_,e,h,_,_,_=>by cases h
 |d::l,hd,e,he,S,r,hr=>by
  have hr':(bif Nat.beq e.n d.n then(match d.P S with|some r=>r|none=> .none) else lt l e.n S).val=some r:=hr
  simp only[List.map_cons,apart,Bool.and_eq_true] at hd
  rcases List.mem_cons.1 he with rfl|he
  ·simp only[Nat.beq_refl,cond_true] at hr'
   split at hr'
   ·rename_i q hq
    exact e.ok S q r hq hr'
   ·simp[UR.none,UR.val] at hr'
  ·have h1:=List.all_eq_true.1 hd.1 e.n (List.mem_map_of_mem he)
   have h2:e.n≠d.n:=by
    intro h
    rw[h,Nat.beq_refl] at h1
    cases h1
   rw[uN h2] at hr'
   exact ap5 l hd.2 e he S r hr'
theorem auW{X:Ctx}{f:Nat}{l:List (LE X f)}{cs:List Code}(h:cs=l.map LE.c)(hd:apart (l.map LE.n)=true):LOk X (call X) f (lt l).to cs:=by
 intro c hc S r hr
 rw[h] at hc
 obtain⟨e,he,rfl⟩:=List.mem_map.1 hc
 rw[e.hn] at hr
 exact ap5 l hd e he S r hr
theorem fnS{X:Ctx}{S:fH}{o:S.α→Option S.ρ}(C:∀{R:Type},S.α→(S.ρ→Option R)→Option R)(K:List (FE X))(L:List (LE X S.f))(hn:∀{R:Type} x (k:S.ρ→Option R),C x k=(C x some).bind k)
  (hE:∀{R:Type} x (k:List Row→List Cell→Option R),bodyC X (kt K) (lt L) S.f (S.p.enc x.1) (S.q.enc x.2) k=C x (fun r=>k (S.enc r).1 (S.enc r).2):=by intros;kernel_rfl)
  (hL:loops (codeOf X.P S.f)=L.map LE.c:=by kernel_rfl) (hd:apart (L.map LE.n)=true:=by kernel_rfl) (hp:X.Vt S.f=none:=by kernel_rfl) (ho:∀x,o x=C x some:=by intros;rfl):S.ok X o:=by
 intro x r h
 rw[ho] at h
 exact ap1 hp (auV K) (auW hL hd) (by rw[hE,hn]) h
theorem fH.lim{X:Ctx}{S:fH}{o:Nat→S.α→Option S.ρ}(h:∀n,S.ok X (o n)):S.ok X fun x=>Vm.lim fun n=>o n x:=by
 intro x r hr
 obtain⟨n,hn⟩:=OX hr
 exact h n x r hn
theorem fH.zero{X:Ctx}{S:fH}:S.ok X fun _=>none:=fun _ _ h=>by cases h
theorem fH.EJ{X:Ctx}{S:fH}{o:Nat→S.α→Option S.ρ}(h:∀n,S.ok X (o n))(hi:∀a b,S.enc a=S.enc b→a=b){x:S.α}{n:Nat}{r:S.ρ}(hr:o n x=some r):(Vm.lim fun n=>o n x)=some r:=by
 refine Vm.EJ hr fun m y hy=> ?_
 have h1:=h n x r hr
 have h2:=h m x y hy
 rw[h1] at h2
 exact(hi _ _ (Option.some.inj h2)).symm
theorem fH.Vt{X:Ctx}{S:fH}{o:S.α→Option S.ρ}{p:List V→List Cell→Option (List Row×List Cell)}(h:∀x,p (S.p.enc x.1) (S.q.enc x.2)=(o x).map S.enc:=by intros;rfl)(hp:X.Vt S.f=some p:=by kernel_rfl):S.ok X o:=by
 intro x r hr
 exact ae0 hp (by rw[h,hr];rfl)
def le{X:Ctx}{f:Nat}(n:Nat)(p:Pt St){σ:Type}(v:p.α→σ)(g:p.α→σ→p.α)(A:p.α→Alt (Ex×St))(C:∀{R:Type} (x:p.α),σ→(σ→Option R)→((A x).T→Option R)→Option R)(K:List (FE X))(L:List (LE X f))
  (hn:∀{R:Type} x s (kn:σ→Option R) (ke:(A x).T→Option R),C x s kn ke=(C x s (fun s=>some (Sum.inl s)) (fun t=>some (Sum.inr t))).bind fun r=>match r with| .inl s=>kn s| .inr t=>ke t)
  (hE:∀{R:Type} x s (k:Ex→St→Option R),UW X (kt K) (lt L) f (QZ X.P f n) (p.enc (g x s)) k=C x s (fun s=>k .normal (p.enc (g x s))) (fun t=>(A x).go t fun r=>k r.1 r.2):=by intros;kernel_rfl)
  (hx:∀x t,((A x).enc t).1≠.normal:=by first|(intro x t h;cases h;done)|(intro x t;rcases t with t|t<;>first|(intro h;cases h;done)|(rcases t with t|t<;>first|(intro h;cases h;done)|(rcases t with t|t<;>(intro h;cases h)))))
  (hv:∀x,g x (v x)=x:=by first|(intros;rfl)|(rintro(_|_)<;>rfl))
  (hL:loops (QZ X.P f n)=L.map LE.c:=by kernel_rfl) (hd:apart (L.map LE.n)=true:=by kernel_rfl) (hi:lid (QZ X.P f n)=n:=by kernel_rfl):LE X f:=
 ⟨n,QZ X.P f n,fun S=>match p.dec S with|some x=>some ⟨A x,iR (fun s=>C x s (fun s=>some (Sum.inl s)) (fun t=>some (Sum.inr t))) (v x)⟩|none=>none,hi,by
  intro S q r hq hr
  split at hq
  ·rename_i x hp
   cases hq
   obtain⟨t,ht,rfl⟩:=UR.abf hr
   rw[p.ok _ _ hp]
   have h:=ap2 (X:=X) (f:=f) (c:=QZ X.P f n) (K:=kt K) (L:=lt L) (tm:=fun s=>p.enc (g x s)) (tx:=(A x).enc) (auV K) (auW hL hd) (fun s=>by
    rw[hE,hn]
    congr 1
    funext r
    cases r
    ·rfl
    ·exact Alt.go_eq _ _ _) (hx x) ht
   rwa [hv] at h
  ·cases hq⟩
theorem nb:(∀(α β:Type) (c:Bool) (a b:Option α) (f:α→Option β),(bif c then a else b).bind f=bif c then a.bind f else b.bind f)∧(∀(α β γ:Type) (o:Option α) (g:α→Option β) (f:β→Option γ),(o.bind g).bind f=o.bind fun x=>(g x).bind f)∧
  (∀(α β:Type) (a:α) (f:α→Option β),(some a).bind f=f a)∧(∀(α β:Type) (f:α→Option β),(none:Option α).bind f=none)∧
  (∀(α β γ:Type) (o:Option α) (n:Option β) (f:α→Option β) (g:β→Option γ),(aot o n f).bind g=aot o (n.bind g) fun x=>(f x).bind g)∧
  (∀(α β γ δ:Type) (r:α⊕β) (f:α→Option γ) (g:β→Option γ) (k:γ→Option δ),(xZ r f g).bind k=xZ r (fun x=>(f x).bind k) (fun y=>(g y).bind k))∧
  (∀(α β γ:Type) (x:α) (f:α→Option β) (g:β→Option γ),(letE x f).bind g=letE x fun y=>(f y).bind g):=
 ⟨fun _ _=>ap3,fun _ _ _=>aor,fun _ _=>ah,fun _ _=>aos,fun _ _ _=>adZ,fun _ _ _ _=>ad1,fun _ _ _=>ad2⟩
section
variable {α β ρ R:Type} {k:ρ→Option R}
theorem gG{c:Bool}{x y:Option R}{u v:Option ρ}(h1:x=u.bind k)(h2:y=v.bind k):(bif c then x else y)=(bif c then u else v).bind k:=by cases c<;>assumption
theorem Gp{o:Option α}{f:α→Option R}{g:α→Option ρ}(h:∀a,f a=(g a).bind k):o.bind f=(o.bind g).bind k:=by cases o with
 |none=>rfl
 |some a=>exact h a
theorem Gq{o:Option α}{n:Option R}{m:Option ρ}{f:α→Option R}{g:α→Option ρ}(h1:n=m.bind k)(h:∀a,f a=(g a).bind k):aot o n f=(aot o m g).bind k:=by rw[adZ,h1,funext h]
theorem Gs{o:α⊕β}{f:α→Option R}{g:β→Option R}{f':α→Option ρ}{g':β→Option ρ}(h1:∀a,f a=(f' a).bind k)(h2:∀a,g a=(g' a).bind k):xZ o f g=(xZ o f' g').bind k:=by rw[ad1,funext h1,funext h2]
theorem Gt{x:α}{f:α→Option R}{g:α→Option ρ}(h:∀a,f a=(g a).bind k):letE x f=(letE x g).bind k:=by rw[ad2,funext h]
end
end
end Go.Vm
namespace Go.Vm
open Go
theorem aP{n:Int}(h1: -9223372036854775808≤n)(h2:n≤9223372036854775807):IntKind.i64.wrap n=n:=IntWalk.i64_in n ⟨h1,h2⟩
theorem aal{α β:Type}(f:α→β)(l:List α)(i:Int):idx (l.map f) i=(idx l i).map f:=by
 unfold idx
 cases decide (0≤i)<;>simp
theorem fG{α:Type}(l:List α)(i:Nat):idx l (i:Int)=l[i]? :=by
 simp[idx]
structure Nd where
 kind:Int
 op:Int
 text:List UInt8
 other:List UInt8
 kids:List Int
 deriving DecidableEq,Inhabited
def encI(l:List Int):List Row:=l.map fun k=>[.int .i64 k]
def encS(l:List (List UInt8)):List Row:=l.map fun s=>[.str s]
def KP(o:Bool)(n:Nd):Row:=[.int .i64 n.kind,.int .i64 n.op,.str n.text,.str n.other,.sl o 1 (encI n.kids)]
def dP(o:Bool)(l:List Nd):List Row:=l.map (KP o)
structure Tk where
 kind:Int
 text:List UInt8
 at_:Int
 deriving DecidableEq,Inhabited
def abl(n:Tk):Row:=[.int .i64 n.kind,.str n.text,.int .i64 n.at_]
def kF(l:List Tk):List Row:=l.map abl
section
variable (o:Bool) (n:Nd) (l:List Nd) (k:List Int) (i:Int) (t:Tk) (ts:List Tk)
@[simp] theorem dw:(encI k).length=k.length:=by simp[encI]
@[simp] theorem iq:(dP o l).length=l.length:=by simp[dP]
@[simp] theorem iw:(kF ts).length=ts.length:=by simp[kF]
@[simp] theorem agl:idx (encI k) i=(idx k i).map fun k=>[D.int .i64 k]:=aal _ _ _
@[simp] theorem azB:idx (dP o l) i=(idx l i).map (KP o):=aal _ _ _
@[simp] theorem azC:idx (kF ts) i=(idx ts i).map abl:=aal _ _ _
@[simp] theorem rD(j:Nat):(encI k)[j]? =(k[j]?).map fun k=>[D.int .i64 k]:=by simp[encI]
@[simp] theorem mV(j:Nat):(dP o l)[j]? =(l[j]?).map (KP o):=by simp[dP]
@[simp] theorem azD(j:Nat):(kF ts)[j]? =(ts[j]?).map abl:=by simp[kF]
@[simp] theorem EY:dn .i64 (KP o n) 0=some n.kind:=rfl
@[simp] theorem GX:dn .i64 (KP o n) 1=some n.op:=rfl
@[simp] theorem GY:cStr (KP o n) 2=some n.text:=rfl
@[simp] theorem GZ:cStr (KP o n) 3=some n.other:=rfl
@[simp] theorem EL:BK 1 (KP o n) 4=some (encI n.kids):=rfl
@[simp] theorem cT0:dn .i64 (abl t) 0=some t.kind:=rfl
@[simp] theorem cT1:cStr (abl t) 1=some t.text:=rfl
@[simp] theorem cT2:dn .i64 (abl t) 2=some t.at_:=rfl
@[simp] theorem Ll:dn .i64 [D.int .i64 i] 0=some i:=rfl
@[simp] theorem anf:aA (encI k)=encI k:=by
 induction k with
 |nil=>rfl
 |cons x l ih=>
  simp only[encI,List.map_cons,aA] at ih⊢
  rw[ih]
  rfl
@[simp] theorem ap6:aA (dP o l)=dP false l:=by
 induction l with
 |nil=>rfl
 |cons x l ih=>
  simp only[dP,List.map_cons,aA] at ih⊢
  rw[ih]
  simp[KP,qZ,D.fz,anf]
@[simp] theorem az3:aA (kF ts)=kF ts:=by
 induction ts with
 |nil=>rfl
 |cons x l ih=>
  simp only[kF,List.map_cons,aA] at ih⊢
  rw[ih]
  simp[abl,qZ,D.fz]
@[simp] theorem GU:aB (encI k)=true:=by
 simp only[aB,encI,List.all_map,List.all_eq_true]
 intro x _
 rfl
theorem ap7(j:Nat):(encI k).set j [D.int .i64 i]=encI (k.set j i):=by simp[encI,List.map_set]
end
def I64(n:Int):Prop:= -9223372036854775808≤n∧n≤9223372036854775807
structure Fit(n:Nd):Prop where
 kind:I64 n.kind
 op:I64 n.op
 text:n.text.length≤maxLen
 other:n.other.length≤maxLen
 kids:n.kids.length≤maxLen
 kid:∀k,k∈n.kids→I64 k
structure aT5(n:Tk):Prop where
 kind:I64 n.kind
 text:n.text.length≤maxLen
 at_:I64 n.at_
def abm{α ω τ:Type}(f:ω→α→ω⊕τ)(fin:ω→τ):List α→ω→τ
 |[],w=>fin w
 |x::l,w=>match f w x with
  | .inl w'=>abm f fin l w'
  | .inr t=>t
theorem amf{σ τ α ω:Type}(b:σ→Option (σ⊕τ))(l:List α)(st:Nat→ω→σ)(f:ω→α→ω⊕τ)(fin:ω→τ)(I:Nat→ω→Prop)
  (hstep:∀i x w,l[i]? =some x→I i w→b (st i w)=some (match f w x with| .inl w'=> .inl (st (i+1) w')| .inr t=> .inr t))
  (hI:∀i x w w',l[i]? =some x→I i w→f w x=.inl w'→I (i+1) w')
  (hend:∀w,I l.length w→b (st l.length w)=some (.inr (fin w))) (w:ω) (h0:I 0 w):iR b (st 0 w)=some (abm f fin l w):=by
 have key:∀(t:List α) (i:Nat) (w:ω),l.drop i=t→i≤l.length→I i w→iR b (st i w)=some (abm f fin t w):=by
  intro t
  induction t with
  |nil=>
   intro i w hd hi hI'
   have:i=l.length:=by
    have:=congrArg List.length hd
    simp at this
    omega
   subst this
   exact iW (hend w hI')
  |cons x t ih=>
   intro i w hd hi hI'
   have hx:l[i]? =some x:=by
    have:(l.drop i)[0]? =some x:=by rw[hd];rfl
    simpa using this
   have hlt:i<l.length:=(List.getElem?_eq_some_iff.1 hx).1
   have hd':l.drop (i+1)=t:=by
    rw[←List.drop_drop,hd]
    rfl
   have hs:=hstep i x w hx hI'
   simp only[abm]
   cases hf:f w x with
   |inl w'=>
    rw[hf] at hs
    rw[jU hs]
    exact ih (i+1) w' hd' hlt (hI i x w w' hx hI' hf)
   |inr u=>
    rw[hf] at hs
    exact iW hs
 exact key l 0 w rfl (Nat.zero_le _) h0
end Go.Vm
namespace Go.Vm
open Go
inductive Tn where
 |mk (kind op:Int) (text other:List UInt8) (kids:List Tn)
mutual
def Tn.size:Tn→Nat
 | .mk _ _ _ _ ks=>sizes ks+1
def sizes:List Tn→Nat
 |[]=>0
 |t::ts=>t.size+sizes ts
end
def ends:List Tn→Nat→List Int
 |[],_=>[]
 |t::ts,b=>((b:Int)+t.size - 1)::ends ts (b+t.size)
mutual
def Tn.flat:Tn→Nat→List Nd
 | .mk k o x y ks,b=>kZ ks b++[⟨k,o,x,y,ends ks b⟩]
def kZ:List Tn→Nat→List Nd
 |[],_=>[]
 |t::ts,b=>t.flat b++kZ ts (b+t.size)
end
mutual
def Tn.row(w:Bool):Tn→Row
 | .mk k o x y ks=>[.int .i64 k,.int .i64 o,.str x,.str y,.sl w 5 (gW w ks)]
def gW(w:Bool):List Tn→List Row
 |[]=>[]
 |t::ts=>t.row w::gW w ts
end
mutual
def Tn.depth:Tn→Int
 | .mk _ _ _ _ ks=>depths 0 ks+1
def depths(a:Int):List Tn→Int
 |[]=>a
 |t::ts=>depths (bif decide (a<t.depth) then t.depth else a) ts
end
def Tn.kids:Tn→List Tn| .mk _ _ _ _ ks=>ks
def Tn.kind:Tn→Int| .mk k _ _ _ _=>k
def Tn.op:Tn→Int| .mk _ o _ _ _=>o
def Tn.text:Tn→List UInt8| .mk _ _ x _ _=>x
def Tn.other:Tn→List UInt8| .mk _ _ _ y _=>y
theorem Tn.ind{P:Tn→Prop}(h:∀k o x y ks,(∀t,t∈ks→P t)→P (.mk k o x y ks))(t:Tn):P t:=by
 refine Tn.rec (motive_1:=P) (motive_2:=fun ks=>∀t,t∈ks→P t) ?_ ?_ ?_ t
 ·intro k o x y ks ih;exact h k o x y ks ih
 ·intro t ht;cases ht
 ·intro t ts h1 h2 u hu
  rcases List.mem_cons.1 hu with rfl|hu
  ·exact h1
  ·exact h2 u hu
theorem Tn.size_pos:∀t:Tn,1≤t.size
 | .mk _ _ _ _ ks=>by rw[Tn.size];omega
theorem Tn.SX(t:Tn):t.size=sizes t.kids+1:=by cases t;rfl
theorem oI:∀a b:List Tn,sizes (a++b)=sizes a+sizes b
 |[],b=>by simp[sizes]
 |t::a,b=>by rw[List.cons_append,sizes,sizes,oI a b];omega
theorem lQ:∀ks:List Tn,ks.length≤sizes ks
 |[]=>Nat.le_refl _
 |t::ts=>by
  have:=lQ ts
  have:=t.size_pos
  rw[sizes,List.length_cons]
  omega
theorem jD:∀{ks:List Tn} {t:Tn},t∈ks→t.size≤sizes ks
 |u::ts,t,h=>by
  rw[sizes]
  rcases List.mem_cons.1 h with rfl|h
  ·omega
  ·have:=jD h
   omega
theorem Bv:∀a:List Tn,sizes a.reverse=sizes a
 |[]=>rfl
 |t::a=>by
  rw[List.reverse_cons,oI,Bv a,sizes,sizes,sizes]
  omega
theorem gZ:∀(ks:List Tn) (b:Nat),(ends ks b).length=ks.length
 |[],_=>rfl
 |t::ts,b=>by rw[ends,List.length_cons,gZ ts,List.length_cons]
theorem Q5:∀(a c:List Tn) (b:Nat),ends (a++c) b=ends a b++ends c (b+sizes a)
 |[],c,b=>by simp[ends,sizes]
 |t::a,c,b=>by
  rw[List.cons_append,ends,ends,Q5 a c,sizes,List.cons_append,Nat.add_assoc]
theorem Hw:∀(a c:List Tn) (b:Nat),kZ (a++c) b=kZ a b++kZ c (b+sizes a)
 |[],c,b=>by simp[kZ,sizes]
 |t::a,c,b=>by
  rw[List.cons_append,kZ,kZ,Hw a c,sizes,List.append_assoc,Nat.add_assoc]
mutual
theorem Tn.flat_length:∀(t:Tn) (b:Nat),(t.flat b).length=t.size
 | .mk _ _ _ _ ks,b=>by rw[Tn.flat,Tn.size,List.length_append,ni ks b];rfl
theorem ni:∀(ks:List Tn) (b:Nat),(kZ ks b).length=sizes ks
 |[],_=>rfl
 |t::ts,b=>by rw[kZ,sizes,List.length_append,t.flat_length b,ni ts]
end
theorem ap8{ks:List Tn}{b j:Nat}(h:j<ks.length):(ends ks b)[j]? =some ((b:Int)+sizes (ks.take (j+1)) - 1):=by
 induction ks generalizing b j with
 |nil=>simp at h
 |cons t ts ih=>
  cases j with
  |zero=>simp[ends,sizes]
  |succ j=>
   simp only[List.length_cons,Nat.add_lt_add_iff_right] at h
   rw[ends,List.getElem?_cons_succ,ih h,List.take_succ_cons,sizes]
   congr 1
   omega
def Nd.up(d:Int)(n:Nd):Nd:={n with kids:=n.kids.map (· +d)}
theorem ang:∀(ks:List Tn) (b c:Nat),ends ks c=(ends ks b).map (· +((c:Int) - b))
 |[],_,_=>rfl
 |t::ts,b,c=>by
  rw[ends,ends,List.map_cons,ang ts (b+t.size) (c+t.size)]
  have e:(((c+t.size:Nat):Int) - ((b+t.size:Nat):Int))=(c:Int) - b:=by omega
  rw[e]
  congr 1
  omega
mutual
theorem Tn.anh:∀(t:Tn) (b c:Nat),t.flat c=(t.flat b).map (Nd.up ((c:Int) - b))
 | .mk k o x y ks,b,c=>by
  rw[Tn.flat,Tn.flat,List.map_append,agm ks b c,ang ks b c]
  rfl
theorem agm:∀(ks:List Tn) (b c:Nat),kZ ks c=(kZ ks b).map (Nd.up ((c:Int) - b))
 |[],_,_=>rfl
 |t::ts,b,c=>by
  rw[kZ,kZ,List.map_append,t.anh b c,agm ts (b+t.size) (c+t.size)]
  have e:(((c+t.size:Nat):Int) - ((b+t.size:Nat):Int))=(c:Int) - b:=by omega
  rw[e]
end
def Lies(l:List Nd)(b:Nat)(t:Tn):Prop:=∃pre post,l=pre++(t.flat b++post)∧pre.length=b
theorem Lies.whole(t:Tn):Lies (t.flat 0) 0 t:=⟨[],[],by simp,rfl⟩
theorem Lies.root{l:List Nd}{b:Nat}{k o:Int}{x y:List UInt8}{ks:List Tn}(h:Lies l b (.mk k o x y ks)):l[b+sizes ks]? =some ⟨k,o,x,y,ends ks b⟩:=by
 obtain⟨pre,post,rfl,rfl⟩:=h
 rw[Tn.flat,List.getElem?_append_right (by omega),List.append_assoc,List.getElem?_append_right (by rw[ni];omega),ni]
 simp
theorem Lies.kid{l:List Nd}{b:Nat}{k o:Int}{x y:List UInt8}{a c:List Tn}{t:Tn}(h:Lies l b (.mk k o x y (a++t::c))):Lies l (b+sizes a) t:=by
 obtain⟨pre,post,rfl,rfl⟩:=h
 refine⟨pre++kZ a pre.length,kZ c (pre.length+sizes a+t.size)++[⟨k,o,x,y,ends (a++t::c) pre.length⟩]++post, ?_,by rw[List.length_append,ni]⟩
 rw[Tn.flat,Hw,kZ]
 simp only[List.append_assoc]
theorem Lies.lt{l:List Nd}{b:Nat}{t:Tn}(h:Lies l b t):b+t.size≤l.length:=by
 obtain⟨pre,post,rfl,rfl⟩:=h
 simp only[List.length_append,t.flat_length]
 omega
theorem Lies.part{l:List Nd}{b:Nat}{t:Tn}(h:Lies l b t):(l.drop b).take t.size=t.flat b:=by
 obtain⟨pre,post,rfl,rfl⟩:=h
 rw[List.drop_left,←t.flat_length pre.length,List.take_left]
def gI(st:List Int):List Int→Int→Option Int
 |[],at_=>some at_
 |k::ks,at_=>if at_<0∨k≠at_ then none else gI st ks ((st[k.toNat]?.getD 0) - 1)
def jy:List Int→List (List Int)→Option (List Int)
 |st,[]=>some st
 |st,n::l=>match gI st n.reverse ((st.length:Int) - 1) with
  |none=>none
  |some at_=>jy (st++[at_+1]) l
def nO(l:List (List Int)):Option (List Int):=if 1≤l.length∧l.length≤400 then jy [] l else none
def ks(l:List Nd):List (List Int):=l.map (·.kids)
def Dh(l:List Nd):Bool:=match nO (ks l) with
 |none=>false
 |some st=>st[l.length - 1]?.getD 0==0
theorem MC(l:List Nd):(ks l).length=l.length:=by simp[ks]
def MQ(st:List Int):List Tn→Prop
 |[]=>True
 |t::ts=>st[sizes (t::ts) - 1]? =some (sizes ts:Int)∧MQ st ts
theorem ad3{st u:List Int}:∀{ts:List Tn},sizes ts≤st.length→(MQ (st++u) ts↔MQ st ts)
 |[],_=>Iff.rfl
 |t::ts,h=>by
  have hp:=t.size_pos
  have h1:sizes ts≤st.length:=by rw[sizes] at h;omega
  rw[MQ,MQ,ad3 h1,List.getElem?_append_left (by rw[sizes] at h⊢;omega)]
theorem abn{st:List Int}:∀{ks:List Int} {ts:List Tn} {a:Int},MQ st ts→gI st ks ((sizes ts:Int) - 1)=some a→
  ∃u v,ts=u++v∧ks.reverse=ends u.reverse (sizes v)∧a=(sizes v:Int) - 1
 |[],ts,a,_,h=>by
  rw[gI] at h
  cases h
  exact⟨[],ts,rfl,rfl,rfl⟩
 |k::ks,[],a,_,h=>by
  rw[gI,if_pos (.inl (by simp[sizes]))] at h
  cases h
 |k::ks,t::ts,a,hr,h=>by
  have hp:=t.size_pos
  have hs:sizes (t::ts)=t.size+sizes ts:=by rw[sizes]
  rw[gI] at h
  split at h
  ·cases h
  ·rename_i hc
   have hk:k=(sizes (t::ts):Int) - 1:=by omega
   have hk':k.toNat=sizes (t::ts) - 1:=by omega
   rw[hk',hr.1,Option.getD_some] at h
   obtain⟨u,v,rfl,h1,h2⟩:=abn hr.2 h
   refine⟨t::u,v,rfl, ?_,h2⟩
   rw[List.reverse_cons,List.reverse_cons,h1,Q5,Bv,hk,hs,oI,ends,ends]
   congr 2
   omega
theorem abo{st:List Int}:∀{u v:List Tn},MQ st (u++v)→MQ st v
 |[],_,h=>h
 |_::u,_,h=>abo (u:=u) h.2
theorem VZ:∀(l pre:List Nd) (st r:List Int) (ts:List Tn),pre=kZ ts.reverse 0→st.length=pre.length→MQ st ts→jy st (ks l)=some r→
  ∃us,pre++l=kZ us.reverse 0∧r.length=(pre++l).length∧MQ r us
 |[],pre,st,r,ts,h1,h2,h3,h=>by
  rw[show ks []=[] from rfl,jy] at h
  cases h
  exact⟨ts,by simpa using h1,by simpa using h2,h3⟩
 |n::l,pre,st,r,ts,h1,h2,h3,h=>by
  have hk:ks (n::l)=n.kids::ks l:=rfl
  have hpl:pre.length=sizes ts:=by rw[h1,ni,Bv]
  rw[hk,jy] at h
  split at h
  ·cases h
  ·rename_i a ha
   rw[h2,hpl] at ha
   obtain⟨u,v,rfl,hu,rfl⟩:=abn h3 ha
   rw[List.reverse_reverse] at hu
   have hz:sizes (Tn.mk n.kind n.op n.text n.other u.reverse::v)=sizes u+1+sizes v:=by rw[sizes,Tn.size,Bv]
   have:=VZ l (pre++[n]) (st++[(sizes v:Int) - 1+1]) r (Tn.mk n.kind n.op n.text n.other u.reverse::v) (by
    rw[h1,List.reverse_append,List.reverse_cons,Hw,Hw,kZ,kZ,Tn.flat,List.append_nil,List.append_assoc,Bv,Nat.zero_add,←hu]) (by simp[h2]) (by
    refine⟨?_, ?_⟩
    ·rw[hz,List.getElem?_append_right (by rw[h2,hpl,oI];omega),h2,hpl,oI]
     rw[show sizes u+1+sizes v - 1 - (sizes u+sizes v)=0 by omega]
     simp
    ·rw[ad3 (by rw[h2,hpl,oI];omega)]
     exact abo h3) h
   obtain⟨us,k1,k2,k3⟩:=this
   exact⟨us,by simpa using k1,by simpa using k2,k3⟩
theorem amg{l:List Nd}(h:Dh l=true):∃t:Tn,l=t.flat 0∧t.size≤400:=by
 unfold Dh at h
 cases hs:nO (ks l) with
 |none=>rw[hs] at h;cases h
 |some r=>
  rw[hs] at h
  unfold nO at hs
  split at hs
  ·rename_i hq
   rw[MC] at hq
   obtain⟨us,k1,k2,k3⟩:=VZ l [] [] r [] rfl rfl trivial hs
   simp only[List.nil_append] at k1 k2
   have hl:l.length=sizes us:=by rw[k1,ni,Bv]
   cases us with
   |nil=>rw[sizes] at hl;omega
   |cons t ts=>
    rw[MQ,←hl] at k3
    simp only[k3.1,Option.getD_some,beq_iff_eq] at h
    have:ts=[]:=by
     cases ts with
     |nil=>rfl
     |cons u us=>
      have:=u.size_pos
      rw[sizes] at h
      omega
    subst this
    refine⟨t,by simpa[kZ] using k1, ?_⟩
    rw[sizes,sizes] at hl
    omega
  ·cases hs
theorem OZ(w:Bool):∀ts:List Tn,gW w ts=ts.map (Tn.row w)
 |[]=>rfl
 |t::ts=>by rw[gW,OZ w ts];rfl
mutual
theorem avW(w:Bool):∀t:Tn,qZ (t.row w)=t.row false
 | .mk k o x y ts=>by
  have:=abp w ts
  simp only[Tn.row,qZ,D.fz,this]
theorem abp(w:Bool):∀ts:List Tn,aA (gW w ts)=gW false ts
 |[]=>rfl
 |t::ts=>by rw[gW,aA,avW w t,abp w ts,gW]
end
end Go.Vm
namespace Go.Vm
open Go
section
variable {X:Ctx} {base:Nat} {U:Nat→Prop} {w w':World} {f:FuncId} {gargs kD:List Value} {N1 N2:List Nat} {P:Program}
theorem ap9{args:List V}(hG:Given X base U w f args [] gargs kD N1 N2)(hm:∀i,i<args.length→EH X.Jd f i=0):
  kD=[]∧N1=[]∧N2=[]∧dO (impμ []) [] (view w U (· ∈([]:List Nat)++[])) args gargs:=by
 obtain⟨rfl,rfl⟩:=hG.cells
 have key:∀(args:List V) (i:Nat) (gs:List Value) (N:List Nat) (hv:View),(∀j,i≤j→j<i+args.length→EH X.Jd f j=0)→LK X.Jd f (impμ []) (qj 0 []) (dR w) hv i args gs N→N=[]∧dO (impμ []) [] hv args gs:=by
  intro args
  induction args with
  |nil=>
   intro i gs N hv _ h
   simp only[LK] at h
   exact⟨h.2,by simpa[dO] using h.1⟩
  |cons a args ih=>
   intro i gs N hv hi h
   simp only[LK,hi i (Nat.le_refl _) (by simp)] at h
   obtain⟨g,gs',M1,M2,rfl,rfl,⟨rfl,hq⟩,hr⟩:=h
   obtain⟨rfl,hs⟩:=ih (i+1) gs' M2 hv (fun j h1 h2=>hi j (by omega) (by simp only[List.length_cons];omega)) hr
   exact⟨rfl,by simp only[dO];exact⟨g,gs',rfl,hq,hs⟩⟩
 obtain⟨rfl,hs⟩:=key args 0 gargs N1 _ (fun j _ hj=>hm j (by omega)) hG.args
 exact⟨rfl,rfl,rfl,hs⟩
theorem amh{μ:Nat→Value}{m:Mem}{h:View}{a b:List UInt8}(q:dO μ m h [.d (.str a),.d (.str b)] gargs):gargs=[.string ⟨⟨a⟩⟩,.string ⟨⟨b⟩⟩]:=by
 simp only[dO,bJ,ro] at q
 obtain⟨g,gs,rfl,rfl,g',gs',rfl,rfl,rfl⟩:=q
 rfl
theorem ami{t:TypeId}{x:D}{g:Value}(ht:Jk P t=false)(hx:∀H h,ow H h x g [])(hk:Keep [] w w'):Did P U w w' ([]++[]) [t] [] [] [] [[x]] [g] [] []:=by
 refine⟨hk,by simp,by simp,rfl,⟨rfl,rfl⟩, ?_⟩
 simp only[NS]
 refine⟨_,_,_,_,[g],[],[],rfl,rfl,rfl, ?_, ?_,rfl,rfl,rfl,rfl⟩
 ·rw[valOf,if_neg (by rw[ht];simp)]
 ·simp only[iI]
  exact⟨_,_,[],[],rfl,rfl,hx _ _,rfl⟩
end
end Go.Vm
namespace Go.Vm
open Go
mutual
def YS(P:Program):Nat→TypeId→Row→Prop
 |0,_,_=>False
 |n+1,t,row=>match P.underlying t with
  |some .bool=>∃b,row=[.bool b]
  |some (.int k)=>∃x,row=[.int k x]∧(Lit.int k x).wf=true
  |some .string=>∃s,row=[.str s]∧s.length≤maxLen
  |some (.slice e)=>∃rows,row=[.sl false (lC P e) rows]∧rows.length≤maxLen∧∀r,r∈rows→YS P n e r
  |some (.struct fs)=>abq P n fs.toList row
  |_=>False
def abq(P:Program):Nat→List Field→Row→Prop
 |_,[],row=>row=[]
 |n,f::fs,row=>∃r1 r2,row=r1++r2∧YS P n f.type r1∧abq P n fs r2
end
def XM(P:Program):Nat→List Field→Option Nat
 |o,[]=>some o
 |o,f::fs=>bif Nat.beq f.offset o then XM P (o+P.cellsOf f.type) fs else none
def YT(P:Program):Nat→TypeId→Bool
 |0,_=>false
 |n+1,t=>match P.underlying t with
  |some .bool|some (.int _)|some .string=>true
  |some (.slice e)=>YT P n e && Nat.ble 1 (lC P e)
  |some (.struct fs)=>(match XM P 0 fs.toList with|some o=>Nat.beq o (P.cellsOf t)|none=>false) && fs.toList.all fun f=>YT P n f.type
  |_=>false
theorem aou(P:Program)(t:TypeId):lC P t=P.cellsOf t:=by
 unfold lC Program.cellsOf
 cases P.info? t<;>rfl
theorem abr{α β:Type}{f:α→Option β}:∀{l:List α} {r:List β},l.mapM f=some r→r.length=l.length∧∀(i:Nat) x,l[i]? =some x→∃y,f x=some y∧r[i]? =some y
 |[],r,h=>by
  simp at h
  subst h
  exact⟨rfl,fun i x h=>by simp at h⟩
 |a::l,r,h=>by
  rw[List.mapM_cons] at h
  simp only[Option.bind_eq_bind,Option.bind_eq_some_iff,Option.pure_def,Option.some.injEq] at h
  obtain⟨y,h1,r',h2,rfl⟩:=h
  obtain⟨h3,h4⟩:=abr h2
  refine⟨by simp[h3],fun i x hx=> ?_⟩
  cases i with
  |zero=>
   simp only[List.getElem?_cons_zero,Option.some.injEq] at hx
   subst hx
   exact⟨y,h1,rfl⟩
  |succ i=>simpa using h4 i x (by simpa using hx)
theorem ani{α:Type}{p:Nat→α→Prop}:∀(n k:Nat),(∀i,i<n→∃x,p (k+i) x)→∃l:List α,l.length=n∧∀(i:Nat) x,l[i]? =some x→p (k+i) x
 |0,_,_=>⟨[],rfl,fun i x h=>by simp at h⟩
 |n+1,k,h=>by
  obtain⟨x,hx⟩:=h 0 (by omega)
  obtain⟨l,h1,h2⟩:=ani n (k+1) (fun i hi=>by
   have:=h (i+1) (by omega)
   rwa [show k+(i+1)=k+1+i by omega] at this)
  refine⟨x::l,by simp[h1],fun i y hy=> ?_⟩
  cases i with
  |zero=>
   simp only[List.getElem?_cons_zero,Option.some.injEq] at hy
   subst hy
   exact hx
  |succ i=>
   have:=h2 i y (by simpa using hy)
   rwa [show k+1+i=k+(i+1) by omega] at this
theorem agn{h:View}:∀(r:Row) (b o:Nat) (cs:List Value),(∀(j:Nat) v,cs[j]? =some v→h b (o+j)=some v)→jc h r cs→uM h r b o
 |[],_,_,_,_,_=>trivial
 |x::r,b,o,cs,hc,⟨v,cs',e,h1,h2⟩=>by
  subst e
  exact⟨⟨v,by simpa using hc 0 v rfl,h1⟩,agn r b (o+1) cs' (fun j u hj=>by
   have:=hc (j+1) u (by simpa using hj)
   rwa [show o+(j+1)=o+1+j by omega] at this) h2⟩
theorem ad4{h:View}{s b:Nat}:∀(rs:List Row) (o:Nat),(∀(i:Nat) r,rs[i]? =some r→r.length=s∧uM h r b (o+i * s))→mW h s rs b o
 |[],_,_=>trivial
 |r::rs,o,hr=>by
  obtain⟨h1,h2⟩:=hr 0 r rfl
  refine⟨h1,by simpa using h2,ad4 rs (o+s) fun i q hq=> ?_⟩
  obtain⟨h3,h4⟩:=hr (i+1) q (by simpa using hq)
  refine⟨h3, ?_⟩
  rwa [show o+(i+1) * s=o+s+i * s by rw[Nat.succ_mul];omega] at h4
theorem YU{h:View}:∀{r1 r2:Row} {c1 c2:List Value},jc h r1 c1→r1.length=c1.length→jc h r2 c2→jc h (r1++r2) (c1++c2)
 |[],r2,c1,c2,_,hl,h2=>by
  have:c1=[]:=List.length_eq_zero_iff.1 hl.symm
  subst this
  exact h2
 |x::r1,r2,_,c2,⟨v,cs',e,h1,h3⟩,hl,h2=>by
  subst e
  exact⟨v,cs'++c2,rfl,h1,YU h3 (by simpa using hl) h2⟩
theorem abt{w:World}{base:Nat}{a:Addr}{n:Nat}{cs:List Value}(h:w.cells? base a n=some cs):cs.length=n∧∀j,j<n→∃v,w.cell? (a.add j)=some v∧cs[j]? =some v:=by
 unfold World.cells? at h
 split at h
 ·obtain⟨h1,h2⟩:=abr h
  rw[List.length_range] at h1
  refine⟨h1,fun j hj=> ?_⟩
  exact h2 j j (by simp[hj])
 ·cases h
section
variable {H:Type} {enc:TypeId×Value→H} {P:Program} {w:World} {base:Nat} {spare:Nat→Bool} {held:Bool}
theorem ad5{n:Nat}(ih:∀(t:TypeId) (cs:List Value) (d:DataW H) (ps:List MemPlace),YT P n t=true→DataW.trod enc P w base spare held n t cs=some (d,ps)→∃row:Row,row.length=cs.length∧YS P n t row∧jc (full w) row cs):
  ∀(fs:List Field) (o tot:Nat) (cs:List Value) (xs:List (DataW H×List MemPlace)),XM P o fs=some tot→(fs.all fun f=>YT P n f.type)=true→tot≤cs.length→
   fs.mapM (fun f=>DataW.trod enc P w base spare held n f.type ((cs.drop f.offset).take (P.cellsOf f.type)))=some xs→
   ∃row:Row,row.length=tot - o∧o≤tot∧abq P n fs row∧jc (full w) row ((cs.drop o).take (tot - o))
 |[],o,tot,cs,xs,hc,_,_,_=>by
  simp only[XM,Option.some.injEq] at hc
  subst hc
  exact⟨[],by simp,Nat.le_refl _,by simp[abq],trivial⟩
 |f::fs,o,tot,cs,xs,hc,hg,hle,hm=>by
  simp only[XM] at hc
  cases hb:Nat.beq f.offset o with
  |false=>simp[hb] at hc
  |true=>
   simp only[hb,cond_true] at hc
   have hbo:=Nat.eq_of_beq_eq_true hb
   simp only[List.all_cons,Bool.and_eq_true] at hg
   rw[List.mapM_cons] at hm
   simp only[Option.bind_eq_bind,Option.bind_eq_some_iff,Option.pure_def,Option.some.injEq] at hm
   obtain⟨y,h1,ys,h2,rfl⟩:=hm
   obtain⟨az4,l2,le2,t2,s2⟩:=ad5 ih fs _ tot cs ys hc hg.2 hle h2
   obtain⟨az5,l1,t1,s1⟩:=ih _ _ y.1 y.2 hg.1 h1
   rw[hbo] at l1 s1
   have hl:((cs.drop o).take (P.cellsOf f.type)).length=P.cellsOf f.type:=by simp;omega
   rw[hl] at l1
   refine⟨az5++az4,by simp[l1,l2];omega,by omega,by simp only[abq];exact⟨az5,az4,rfl,t1,t2⟩, ?_⟩
   have e:(cs.drop o).take (tot - o)=(cs.drop o).take (P.cellsOf f.type)++(cs.drop (o+P.cellsOf f.type)).take (tot - (o+P.cellsOf f.type)):=by
    rw[←List.drop_drop,show tot - o=P.cellsOf f.type+(tot - (o+P.cellsOf f.type)) by omega,List.take_add]
   rw[e]
   exact YU s1 (by rw[l1,hl]) s2
theorem afa:∀(n:Nat) (t:TypeId) (cs:List Value) (d:DataW H) (ps:List MemPlace),YT P n t=true→DataW.trod enc P w base spare held n t cs=some (d,ps)→
  ∃row:Row,row.length=cs.length∧YS P n t row∧jc (full w) row cs
 |0,t,cs,d,ps,hg,_=>by simp[YT] at hg
 |n+1,t,cs,d,ps,hg,h=>by
  simp only[YT] at hg
  unfold DataW.trod at h
  cases hu:P.underlying t with
  |none=>simp[hu] at hg
  |some D=>
   rw[hu] at hg h
   cases D with
   |bool=>
    split at h<;>simp_all
    rename_i b
    exact⟨[.bool b],by simp,by simp[YS,hu],_,_,rfl,rfl,trivial⟩
   |int k=>
    split at h<;>simp_all
    rename_i k' x _
    obtain⟨⟨rfl,hw⟩,_⟩:=h
    refine⟨[.int _ x],by simp, ?_,_,_,rfl,rfl,trivial⟩
    simp only[YS,hu]
    exact⟨x,rfl,hw⟩
   |string=>
    split at h<;>simp_all
    rename_i s
    refine⟨[.str s.data.toList],by simp, ?_,_,_,rfl, ?_,trivial⟩
    ·simp only[YS,hu]
     refine⟨_,rfl, ?_⟩
     simpa using h.1
    ·simp[ro]
   |slice e=>
    simp only[Bool.and_eq_true] at hg
    split at h
    all_goals first
     |(rename_i e1;cases e1;done)
     |(cases h;done)
     |(exfalso;rename_i h21 _ _ _ _ _ _ _ _ _ _ _ _ _ _ _ _ _ _ _;exact h21 _ rfl)
     |skip
    case h_7=>
     rename_i e1
     refine⟨[.sl false (lC P e) []],rfl, ?_,_,_,rfl, ?_,trivial⟩
     ·simp only[YS,hu]
      exact⟨[],rfl,by simp,fun r hr=>by simp at hr⟩
     ·simp only[ro]
      exact⟨none,0,rfl,by simp,fun hn=>absurd rfl hn⟩
    case h_8=>
     rename_i _ e' a len cap e1
     cases e1
     split at h
     ·rename_i hb
      rw[Option.bind_eq_some_iff] at h
      obtain⟨elems,hel,_⟩:=h
      obtain⟨hl,hget⟩:=abr hel
      rw[List.length_range] at hl
      have hs:=aou P e
      have hpos:1≤P.cellsOf e:=by rw[←hs];exact Nat.le_of_ble_eq_true hg.2
      have hrow:∀i,i<len→∃r:Row,YS P n e r∧r.length=lC P e∧a.spot=none∧uM (full w) r a.block (a.off+i * lC P e):=by
       intro i hi
       obtain⟨y,hy,_⟩:=hget i i (by simp[hi])
       rw[Option.bind_eq_some_iff] at hy
       obtain⟨cs,hcs,hy⟩:=hy
       obtain⟨row,l1,t1,s1⟩:=afa n e cs y.1 y.2 hg.1 hy
       obtain⟨hcl,hcg⟩:=abt hcs
       refine⟨row,t1,by rw[l1,hcl,hs], ?_, ?_⟩
       ·obtain⟨y0,hy0,_⟩:=hget 0 0 (List.getElem?_range (by omega))
        rw[Option.bind_eq_some_iff] at hy0
        obtain⟨cs0,hcs0,_⟩:=hy0
        obtain⟨u,hu1,_⟩:=(abt hcs0).2 0 (by omega)
        simpa[Addr.add] using World.cell?_spot hu1
       ·refine agn row a.block _ cs (fun j v hj=> ?_) s1
        have hjn:j<P.cellsOf e:=by have:=(List.getElem?_eq_some_iff.1 hj).1;omega
        obtain⟨u,hu1,hu2⟩:=hcg j hjn
        rw[hu2] at hj
        cases hj
        have hsp:=World.cell?_spot hu1
        have e2:((a.add (i * P.cellsOf e)).add j)=⟨a.block,a.off+i * lC P e+j,none⟩:=by
         rw[hs]
         generalize i * P.cellsOf e=q at hsp⊢
         obtain⟨ab,ao,as_⟩:=a
         rcases Nat.eq_zero_or_pos q with h1|h1<;>rcases Nat.eq_zero_or_pos j with h2|h2
         ·subst h1;subst h2
          have:as_=none:=hsp
          subst this
          rfl
         ·subst h1
          simp[Addr.add,show j≠0 by omega]
         ·subst h2
          simp[Addr.add,show q≠0 by omega]
         ·simp[Addr.add,show q≠0 by omega,show j≠0 by omega]
        rw[e2] at hu1
        exact hu1
      obtain⟨rows,r1,r2⟩:=ani (p:=fun i (r:Row)=>YS P n e r∧r.length=lC P e∧a.spot=none∧uM (full w) r a.block (a.off+i * lC P e)) len 0 (fun i hi=>by rw[Nat.zero_add];exact hrow i hi)
      refine⟨[.sl false (lC P e) rows],rfl, ?_,_,_,rfl, ?_,trivial⟩
      ·simp only[YS,hu]
       refine⟨rows,rfl,by omega,fun r hr=> ?_⟩
       obtain⟨i,hi⟩:=List.getElem?_of_mem hr
       exact(r2 i r hi).1
      ·simp only[ro]
       refine⟨some a,cap,by rw[r1],by omega,fun hn=> ?_⟩
       have h0:∃r0,rows[0]? =some r0:=by
        cases rows with
        |nil=>exact absurd rfl hn
        |cons r0 _=>exact⟨r0,rfl⟩
       obtain⟨r0,h0⟩:=h0
       have hsp:=(r2 0 r0 h0).2.2.1
       refine⟨a.block,a.off, ?_,ad4 rows a.off fun i r hr=> ?_⟩
       ·obtain⟨ab,ao,as_⟩:=a
        simp only at hsp
        subst hsp
        rfl
       ·obtain⟨_,h2,_,h4⟩:=r2 i r hr
        rw[Nat.zero_add] at h4
        exact⟨h2,h4⟩
     ·cases h
   |struct fs=>
    simp only[Bool.and_eq_true] at hg
    split at h
    all_goals first
     |(rename_i e1;cases e1;done)
     |(cases h;done)
     |(exfalso;rename_i h21 _ _ _ _ _ _ _ _ _ _ _ _ _ _ _ _ _ _ _;exact h21 _ rfl)
     |skip
    case h_9=>
     rename_i _ fs' cs' e1
     cases e1
     split at h
     ·rename_i hcl
      rw[Option.map_eq_some_iff] at h
      obtain⟨xs,hxs,_⟩:=h
      cases hc:XM P 0 fs.toList with
      |none=>simp[hc] at hg
      |some tot=>
       simp only[hc] at hg
       have htot:=Nat.eq_of_beq_eq_true hg.1
       obtain⟨row,l1,_,t1,s1⟩:=ad5 (fun t cs d ps hg h=>afa n t cs d ps hg h) fs.toList 0 tot _ xs hc hg.2 (by omega) hxs
       refine⟨row,by rw[l1];omega,by simp only[YS,hu];exact t1, ?_⟩
       simpa[htot,←hcl] using s1
     ·cases h
   |_=>simp at hg
end
end Go.Vm
namespace Go.Vm
open Go Go.RowKit
theorem ad6{A:Adv}{f:Nat}(hm:A.move f=[]){μ:Nat→Value}{m:Mem}{H:Heap}{h:View}:∀{vs:List V} {gs:List Value} (i:Nat),dO μ m h vs gs→LK A f μ m H h i vs gs []
 |[],gs,i,q=>by simp only[dO] at q;simp only[LK];exact⟨q,trivial⟩
 |v::vs,gs,i,q=>by
  simp only[dO] at q
  obtain⟨g,gs',rfl,h1,h2⟩:=q
  simp only[LK]
  refine⟨g,gs',[],[],rfl,rfl, ?_,ad6 hm (i+1) h2⟩
  split
  ·rename_i hmo
   simp only[EH,hm,mem?,cond_false] at hmo
   cases hr:mem? i (A.ref f)<;>cases hr2:mem? i (A.raw f)<;>simp[hr,hr2] at hmo
  ·exact⟨rfl,h1⟩
theorem aov{X:Ctx}(hp:aeW X){f:Nat}{fn:Func}{t:TypeId}{args:List V}{gargs:List Value}{w:World}(hf:X.P.funcs[f]? =some fn)(hb:fn.body.isSome=true)(hr:fn.resultTypes=#[t])(ht:Jk X.P t=false)(hm:X.Jd.move f=[])(hgl:aaC X (full w))
  (hs:dO (impμ []) [] (full w) args gargs) (h:call X f args []=some ([[.bool true]],[])):
  Calls X.P f gargs.toArray w fun e w'=>e=.returned (.bool true)∧Below w.heap.size w w':=by
 have hG:Given X 0 (fun _=>True) w f args [] gargs [] [] []:=by
  have hv:(full w).le (view w (fun _=>True) (· ∈([]:List Nat)++[])):=by
   intro b o v h
   exact aaf trivial (by simp) h
  refine⟨by simp,by simp,fun _ _=>trivial,Nat.zero_le _, ?_,⟨rfl,rfl⟩,C9 hv hgl⟩
  exact OG (sO _ _) hv (fun _ _=>rfl) (ad6 (H:=dR w) hm 0 hs)
 refine(atq hp f fn args [] [[.bool true]] [] hf hb h 0 (fun _=>True) w gargs [] [] [] hG).mono ?_
 rintro e w' ⟨gs,M1,M2,rfl,D⟩
 have hres:=D.res
 rw[hr] at hres
 simp only[NS] at hres
 obtain⟨row,rows',g,gs',cs,N1,N2,e1,e2,_,hv,ho,hl,e3,e4,_⟩:=hres
 simp only[List.cons.injEq] at e1
 obtain⟨rfl,rfl⟩:=e1
 subst e4
 subst e2
 simp only[valOf,ht,Bool.false_eq_true,if_false] at hv
 subst hv
 simp only[iI,ow] at ho
 obtain⟨v,cs',N1,N2,e5,_,⟨rfl,_⟩,_⟩:=ho
 simp only[List.cons.injEq] at e5
 obtain⟨rfl,_⟩:=e5
 refine⟨rfl,⟨D.keep.os,D.keep.tape,D.keep.output,D.keep.size,fun k hk=>D.keep.block k hk (by simp)⟩⟩
section
variable {H:Type} {enc:TypeId×Value→H} {P:Program} {w:World} {base:Nat} {spare:Nat→Bool} {held:Bool} {t:TypeId} {v:Value} {d:DataW H} {ps:List MemPlace}
theorem atA{μ:Nat→Value}{m:Mem}(h:DataW.Trod enc P w base spare held t v d ps)(hg:∀n,YT P (n+8) t=true)(hv:v.cells.toList=[v]):
  ∃n x,YS P (n+8) t [x]∧bJ μ m (full w) (.d x) v:=by
 obtain⟨n,hn⟩:=h
 have hn':DataW.trod enc P w base spare held (n+8) t v.cells.toList=some (d,ps):=DataW.trod_le (Nat.le_add_right n 8) hn
 obtain⟨row,hl,ht,hs⟩:=afa (n+8) t _ d ps (hg n) hn'
 rw[hv] at hl hs
 cases row with
 |nil=>simp at hl
 |cons x r=>
  cases r with
  |cons _ _=>simp at hl
  |nil=>
   obtain⟨u,cs',e,h1,_⟩:=hs
   simp only[List.cons.injEq] at e
   obtain⟨rfl,_⟩:=e
   exact⟨_,x,ht,by simpa[bJ] using h1⟩
end
section
variable {P:Program} {n:Nat} {t:TypeId} {row:Row}
theorem afb{k:IntKind}(hu:P.underlying t=some (.int k))(h:YS P (n+1) t row):∃x,row=[.int k x]∧(Lit.int k x).wf=true:=by simpa[YS,hu] using h
theorem anj(hu:P.underlying t=some .string)(h:YS P (n+1) t row):∃s,row=[.str s]∧s.length≤maxLen:=by simpa[YS,hu] using h
theorem aqa{e:TypeId}(hu:P.underlying t=some (.slice e))(h:YS P (n+1) t row):∃rows,row=[.sl false (lC P e) rows]∧rows.length≤maxLen∧∀r,r∈rows→YS P n e r:=by simpa[YS,hu] using h
theorem amj{fs:Array Field}(hu:P.underlying t=some (.struct fs))(h:YS P (n+1) t row):abq P n fs.toList row:=by simpa[YS,hu] using h
theorem O1{f:Field}{fs:List Field}(h:abq P n (f::fs) row):∃r1 r2,row=r1++r2∧YS P n f.type r1∧abq P n fs r2:=by simpa[abq] using h
theorem aqb(h:abq P n [] row):row=[]:=by simpa[abq] using h
theorem abu{α:Type}{f:α→Row}{p:α→Prop}:∀{rows:List Row},(∀r,r∈rows→∃x,r=f x∧p x)→∃l:List α,rows=l.map f∧∀x,x∈l→p x
 |[],_=>⟨[],rfl,fun x h=>by simp at h⟩
 |r::rows,h=>by
  obtain⟨x,hx,hp⟩:=h r (by simp)
  obtain⟨l,hl,hq⟩:=abu (rows:=rows) (fun r hr=>h r (by simp[hr]))
  refine⟨x::l,by simp[hx,hl],fun y hy=> ?_⟩
  rcases List.mem_cons.1 hy with rfl|hy
  ·exact hp
  ·exact hq y hy
end
end Go.Vm
namespace Go.Vm
open Go
section
variable {H:Type} {enc:TypeId×Value→H}
theorem abv{a:Assume}{C:Checked}{os:Os}{f:FuncId}{fn:Func}{s:ChangeSpec}{conds:List PathCond}{apart fresh handsOn again:Bool}{X:World→Array Value→Prop}
  (hX:∀(w w':World) (args:Array Value),w.heap=w'.heap→X w args→X w' args)
  (own:ownKnob C.prog.godebug=none) (started:os.Started) (noInit:C.prog.inits.idxOf? f=none) (hfn:C.prog.funcs[f]? =some fn)
  (witness:∃(w:World) (tape:Tape) (i:Input),w.os=os∧(w.forCall tape i).Shaped C.prog∧i.vars=[]∧Input.okWide C.prog (w.forCall tape i) .any w.heap.size f i∧
   ((s.pre enc C.prog fn conds apart (w.forCall tape i).memory i.args∧X (w.forCall tape i).memory i.args)∧sizedMet enc C.prog fn (OpenSpec.ofChange s) apart (w.forCall tape i).memory i.args)∧a.holds C.prog (lone (Frame.enter C.prog f i.args .normal) [] (w.forCall tape i)))
  (contract:∀(W:World) (base:Nat) (args:Array Value) (ds gs:List (DataW H)) (before:List MemPlace),
   (∀(j:Nat) t v,fn.params[j]? =some t→args[j]? =some v→Value.okWide C.prog W .any base t v)→
   DataW.Whole enc C.prog fn.params.toList s.vars apart W args.toList ds gs before→X W args→W.ShapedOpen C.prog→
   Calls C.prog f args W fun e W'=>∃v,e=.returned v∧s.post enc C.prog fn apart fresh handsOn again W args v W'):
  ReturnsInHanded a C os f .any (fun w args=>(s.pre enc C.prog fn conds apart w args∧X w args)∧sizedMet enc C.prog fn (OpenSpec.ofChange s) apart w args) (s.post enc C.prog fn apart fresh handsOn again):=by
 refine returnsInHanded_of_calls own started noInit witness ?_
 rintro w tape i _ shp _ ⟨_,_,_,g,hg,_,_,_,_,val⟩ ⟨⟨⟨ds,gs,before,whole,_⟩,hx⟩,_⟩ _
 have e:g=fn:=Option.some.inj (hg.symm.trans hfn)
 rw[e] at val
 have c:=contract (w.forCall tape i) w.heap.size i.args ds gs before val (DataW.Whole.of_heap (w':=w.forCall tape i) (by rfl) whole) (hX _ _ _ (by rfl) hx) shp
 refine c.mono ?_
 rintro e W' ⟨v,rfl,hp⟩
 exact ChangeSpec.post_blind hp
end
def aKA:DataW Unit→Value
 | .lit (.int k n)=> .int k n
 | .lit (.bool b)=> .bool b
 | .lit (.string b)=> .string ⟨b.toArray⟩
 |_=> .tuple #[]
def ad7:Nat→DataW Unit→List Value
 |0,_=>[]
 |n+1,d=>match d with
  | .agg ds=>ds.flatMap (ad7 n)
  |d=>[aKA d]
def az6(h:Array Obj)(g:Nat)(d:DataW Unit):Array Obj:=h.modify g fun o=>match o with
 | .cells _ t fr=> .cells (ad7 4 d).toArray t fr
 |o=>o
def layAll(h:Array Obj):List (Nat×DataW Unit)→Array Obj
 |[]=>h
 |(g,d)::l=>layAll (az6 h g d) l
noncomputable def laidWorld(P:Program)(l:List (Nat×DataW Unit))(os:Os):World:=
 let w:=World.holding P os ⟨#[],#[],[]⟩
 {w with heap:=layAll w.heap l}
theorem agp{h:View}{g:Nat}:∀(row:Row) (o:Nat),(∀(j:Nat) x,row[j]? =some x→∃v,h g (o+j)=some v∧ro h x v)→uM h row g o
 |[],_,_=>trivial
 |x::row,o,q=>⟨by simpa using q 0 x rfl,agp row (o+1) fun j y hj=>by
   have:=q (j+1) y (by simpa using hj)
   rwa [show o+(j+1)=o+1+j by omega] at this⟩
theorem XO{P:Program}{w:World}{nm:String}{g t e n fuel:Nat}{cs:Array Value}{ss:List (List UInt8)}{p:List MemPlace}(hu:P.underlying t=some (.array n e))(he:P.underlying e=some .string)(hc:P.cellsOf e=1)
  (hg:P.globalNamed nm=some g) (hv:w.var? P nm=some cs) (h:DataW.trod (fun _=>()) P w 0 (fun _=>true) false fuel t cs.toList=some (.agg (ss.map fun s=> .lit (.string s)),p)):uM (full w) (ss.map D.str) g 0:=by
 obtain⟨xs,m,rfl,hx,hcl,hxl,hel⟩:=DataW.trod_array hu h
 simp only[Prod.mk.injEq,DataW.agg.injEq] at hx
 refine agp _ 0 fun j x hj=> ?_
 rw[List.getElem?_map] at hj
 cases hs:ss[j]? with
 |none=>rw[hs] at hj;cases hj
 |some s=>
  rw[hs] at hj
  cases hj
  have hjl:j<ss.length:=(List.getElem?_eq_some_iff.1 hs).1
  have hlen:ss.length=xs.length:=by
   have:=congrArg List.length hx.1
   simpa using this
  obtain⟨y,hy⟩:∃y,xs[j]? =some y:=⟨xs[j]'(by omega),by simp⟩
  have hh:=hel j (by omega)
  rw[hy] at hh
  obtain⟨b,hb1,hb2,_⟩:=DataW.trod_string he hh
  have hyx:y.1=.lit (.string s):=by
   have:=congrArg (fun l=>l[j]?) hx.1
   simp only[List.getElem?_map,hs,hy,Option.map_some,Option.some.injEq] at this
   exact this.symm
  rw[hb2] at hyx
  simp only[DataW.lit.injEq,Lit.string.injEq] at hyx
  rw[hc,Nat.mul_one] at hb1
  have hcell:cs[j]? =some (.string b):=by
   have:=congrArg (fun l=>l[0]?) hb1
   simpa using this
  refine⟨.string b, ?_, ?_⟩
  ·have:=World.var?_cell hg hv j
   rw[Nat.zero_add]
   show w.cell? ⟨g,j,none⟩=_
   rw[this]
   exact hcell
  ·simp only[ro]
   rw[←hyx]
end Go.Vm
