import Derived.Test.YtbpldgeajbfgnaaGreatDoorVm2
import Derived.Laws.StructEq
import Derived.Laws.Strings
import Derived.Laws.BytesString
import Derived.LoopN
import Derived.CheckFast
set_option linter.unusedVariables false
set_option linter.unusedSimpArgs false
namespace Go.Vm
open Go
section
variable {base:Nat} {U:Nat→Prop} {M0:List Nat} {w0 w w':World} {m m':Mem} {G G':GS} {P:Program}
def Zf:D→Value
 | .int k n=> .int k n
 | .bool b=> .bool b
 | .str s=> .string ⟨⟨s⟩⟩
 |_=> .nilFunc
theorem azR{h:View}{x:D}(hf:x.flat=true):ro h x (Zf x):=by
 cases x with
 |sl _ _ _=>simp[D.flat] at hf
 |_=>simp[Zf,ro]
theorem ati{op:BinOp}{k:IntKind}{a b:Int}{v:V}{t:TypeId}(ho:shiftOp op=false)(h:apc op k a b=some v):∃x,v=.d x∧x.flat=true∧(binOp op t (.int k a) (.int k b)).run P w=.ok (Zf x) w:=by
 cases op
 case add=>cases h;exact⟨_,rfl,rfl,by simp[binOp,Op.intArith,Zf]⟩
 case sub=>cases h;exact⟨_,rfl,rfl,by simp[binOp,Op.intArith,Zf]⟩
 case mul=>cases h;exact⟨_,rfl,rfl,by simp[binOp,Op.intArith,Zf]⟩
 case and=>cases h;exact⟨_,rfl,rfl,by simp[binOp,Op.intBits,Zf]⟩
 case or=>cases h;exact⟨_,rfl,rfl,by simp[binOp,Op.intBits,Zf]⟩
 case xor=>cases h;exact⟨_,rfl,rfl,by simp[binOp,Op.intBits,Zf]⟩
 case eql=>cases h;exact⟨_,rfl,rfl,by simp[binOp,Op.intCmp,Zf]⟩
 case neq=>cases h;exact⟨_,rfl,rfl,by simp[binOp,Op.intCmp,Zf]⟩
 case lss=>cases h;exact⟨_,rfl,rfl,by simp[binOp,Op.intCmp,Zf]⟩
 case leq=>cases h;exact⟨_,rfl,rfl,by simp[binOp,Op.intCmp,Zf]⟩
 case gtr=>cases h;exact⟨_,rfl,rfl,by simp[binOp,Op.intCmp,Zf]⟩
 case geq=>cases h;exact⟨_,rfl,rfl,by simp[binOp,Op.intCmp,Zf]⟩
 case quo=>
  simp only[apc] at h
  by_cases hb:b=0
  ·simp[hb] at h
  ·simp only[hb,decide_false,cond_false,Option.some.injEq] at h
   subst h
   exact⟨_,rfl,rfl,by simp[binOp,Op.intDiv,hb,Zf]⟩
 case rem=>
  simp only[apc] at h
  by_cases hb:b=0
  ·simp[hb] at h
  ·simp only[hb,decide_false,cond_false,Option.some.injEq] at h
   subst h
   exact⟨_,rfl,rfl,by simp[binOp,Op.intDiv,hb,Zf]⟩
 all_goals first|(cases ho;done)|(cases h;done)
theorem af6{op:BinOp}{k k':IntKind}{a b:Int}{v:V}{t:TypeId}(h:Vu op k a b=some v):∃x,v=.d x∧x.flat=true∧(binOp op t (.int k a) (.int k' b)).run P w=.ok (Zf x) w:=by
 unfold Vu at h
 by_cases hb:b<0
 ·simp[hb] at h
 ·simp only[hb,decide_false,cond_false] at h
  cases op<;>simp only at h<;>first|(cases h;done)|skip
  all_goals
   cases h
   exact⟨_,rfl,rfl,by simp[binOp,Op.shift,hb,Zf]⟩
theorem toList_mk(s:List UInt8):(ByteArray.mk ⟨s⟩).toList=s:=by
 rw[ByteArray.toList_eq]
theorem an5(a b:List UInt8):ByteArray.mk ⟨a⟩++ByteArray.mk ⟨b⟩=⟨⟨a++b⟩⟩:=by
 have:(ByteArray.mk ⟨a⟩++ByteArray.mk ⟨b⟩).data=⟨a++b⟩:=by
  rw[ByteArray.data_append]
  simp
 exact congrArg ByteArray.mk this
theorem atj{op:BinOp}{a b:List UInt8}{v:V}{t:TypeId}{l l':Log}(h:(avx op a b).run m l=some (v,m',l')):
  m'=m∧∃x,v=.d x∧x.flat=true∧(binOp op t (.string ⟨⟨a⟩⟩) (.string ⟨⟨b⟩⟩)).run P w=.ok (Zf x) w:=by
 cases op<;>simp only[avx] at h<;>try exact(au h).elim
 case add=>
  cases hc:Nat.ble (a.length+b.length) alL with
  |false=>rw[hc] at h;simp[Acc.run] at h
  |true=>
   rw[hc] at h
   change some (_,_,_)=_ at h
   simp only[Option.some.injEq,Prod.mk.injEq] at h
   obtain⟨rfl,rfl,_⟩:=h
   have hc:=Nat.le_of_ble_eq_true hc
   have hm:IntKind.i64.max=(alL:Int):=by decide
   have hn:¬((((ByteArray.mk ⟨a⟩).size+(ByteArray.mk ⟨b⟩).size:Nat):Int)>IntKind.i64.max):=by
    rw[hm]
    have h1:(ByteArray.mk ⟨a⟩).size=a.length:=rfl
    have h2:(ByteArray.mk ⟨b⟩).size=b.length:=rfl
    rw[h1,h2]
    omega
   refine⟨rfl,_,rfl,rfl, ?_⟩
   simp only[binOp,Op.stringOp,if_neg hn,Sem.run_pure,an5,Zf]
 all_goals
  change some (_,_,_)=_ at h
  simp only[Option.some.injEq,Prod.mk.injEq] at h
  obtain⟨rfl,rfl,_⟩:=h
  refine⟨rfl,_,rfl,rfl, ?_⟩
  simp[binOp,Op.stringOp,toList_mk,Zf]
theorem al2{t:TypeId}(h:boolT P t=true):P.underlying t=some .bool:=by
 unfold boolT at h
 cases hd:P.underlying t with
 |none=>simp[hd] at h
 |some d=>rw[hd] at h;cases d<;>simp at h;rfl
theorem YH{op:BinOp}{t:TypeId}{ox oy:Operand}{a b:Value}(h:∀c,a≠.agg c)(hn:a≠.nilIface):(eqGuard op t ox oy a b).run P w=.ok () w:=by
 unfold eqGuard
 cases op<;>simp
 all_goals cases a<;>first|exact absurd rfl (h _)|exact absurd rfl hn|simp
theorem ac9{t:TypeId}(h:P.underlying t=some .bool)(a b:Bool):(Op.equalIn Op.maxDepth t (.bool a) (.bool b)).run P w=.ok (a==b) w:=by
 have:∀d,(Op.equalIn (d+1) t (.bool a) (.bool b)).run P w=.ok (a==b) w:=by
  intro d
  simp[Op.equalIn,run_underlying h]
 exact this 9999
theorem avI(hA:At base U M0 w0 w m G){op:BinOp}{t:TypeId}{ox oy:Operand}{x y:V}{gx gy:Value}(hx:bJ G.μ m (Gh U w G) x gx)(hy:bJ G.μ m (Gh U w G) y gy){v:V}{l l':Log}(h:(bin (boolT P t) op x y).run m l=some (v,m',l')):
  DK base U M0 w0 w m G P (do eqGuard op t ox oy gx gy;binOp op t gx gy) v m':=by
 have close:∀{x:D},(∀c,gx≠.agg c)→gx≠.nilIface→x.flat=true→(binOp op t gx gy).run P w=.ok (Zf x) w→DK base U M0 w0 w m G P (do eqGuard op t ox oy gx gy;binOp op t gx gy) (.d x) m:=by
  intro x h1 h2 hq hr
  refine DK.same hA (g:=Zf x) ?_ (by simp only[bJ];exact azR hq)
  simp only[Sem.run_bind,YH h1 h2,Result.andThen_ok,hr]
 unfold bin at h
 split at h
 ·simp only[bJ,ro] at hx hy
  subst hx hy
  split at h
  ·rename_i ho
   cases hb:Vu op _ _ _ with
   |none=>rw[hb] at h;simp[Acc.run] at h
   |some r=>
    rw[hb] at h
    change some (_,_,_)=_ at h
    simp only[Option.some.injEq,Prod.mk.injEq] at h
    obtain⟨rfl,rfl,_⟩:=h
    obtain⟨x,rfl,hq,hr⟩:=af6 (P:=P) (w:=w) (t:=t) hb
    exact close (by simp) (by simp) hq hr
  ·rename_i ho
   split at h
   ·rename_i hk
    have hk:=of_decide_eq_true hk
    subst hk
    cases hb:apc op _ _ _ with
    |none=>rw[hb] at h;simp[Acc.run] at h
    |some r=>
     rw[hb] at h
     change some (_,_,_)=_ at h
     simp only[Option.some.injEq,Prod.mk.injEq] at h
     obtain⟨rfl,rfl,_⟩:=h
     obtain⟨x,rfl,hq,hr⟩:=ati (P:=P) (w:=w) (t:=t) ho hb
     exact close (by simp) (by simp) hq hr
   ·exact(au h).elim
 ·simp only[bJ,ro] at hx hy
  subst hx hy
  obtain⟨rfl,x,rfl,hq,hr⟩:=atj (P:=P) (w:=w) (t:=t) h
  exact close (by simp) (by simp) hq hr
 ·simp only[bJ,ro] at hx hy
  subst hx hy
  split at h
  ·rename_i hbt
   have hbt:=al2 hbt
   cases op<;>simp only[azH] at h<;>try(simp[Acc.run] at h;done)
   all_goals
    change some (_,_,_)=_ at h
    simp only[Option.some.injEq,Prod.mk.injEq] at h
    obtain⟨rfl,rfl,_⟩:=h
    refine close (by simp) (by simp) rfl ?_
    simp only[binOp,Op.equal,Sem.run_bind,ac9 hbt,Result.andThen_ok,Sem.run_pure,Zf]
  ·exact(au h).elim
 ·exact(au h).elim
theorem an6{t:TypeId}{x y:V}{r:Bool}(hp:Xt P t x=true)(h:alM x y=some r){μ:Nat→Value}{mm:Mem}{hh:View}{gx gy:Value}(hx:bJ μ mm hh x gx)(hy:bJ μ mm hh y gy)(d:Nat):
  (Op.equalIn (d+1) t gx gy).run P w=.ok r w∧(∃d,P.underlying t=some d)∧Jk P t=false:=by
 unfold alM at h
 split at h
 ·rename_i k a k' b
  simp only[bJ,ro] at hx hy
  subst hx hy
  unfold Xt at hp
  split at hp<;>try cases hp
  all_goals rename_i hu he
  all_goals try cases he
  cases hk:decide (k=k') with
  |false=>rw[hk] at h;cases h
  |true=>
   rw[hk] at h
   cases h
   have:=of_decide_eq_true hk
   subst this
   exact⟨run_equalIn_int w d t k _ a b hu,⟨_,hu⟩,by simp[Jk,hu]⟩
 ·rename_i a b
  simp only[bJ,ro] at hx hy
  subst hx hy
  unfold Xt at hp
  split at hp<;>try cases hp
  all_goals rename_i hu he
  all_goals try cases he
  cases h
  refine⟨?_,⟨_,hu⟩,by simp[Jk,hu]⟩
  have:=run_equalIn_string w d t ⟨⟨a⟩⟩ ⟨⟨b⟩⟩ hu
  rw[ByteArray.toList_eq,ByteArray.toList_eq] at this
  exact this
 ·rename_i a b
  simp only[bJ,ro] at hx hy
  subst hx hy
  unfold Xt at hp
  split at hp<;>try cases hp
  all_goals rename_i hu he
  all_goals try cases he
  cases h
  exact⟨run_equalIn_bool' w d t a b hu,⟨_,hu⟩,by simp[Jk,hu]⟩
 ·cases h
theorem aa0{μ:Nat→Value}{mm:Mem}{hh:View}{xs ys:List V}{gx gy:Array Value}(hx:dO μ mm hh xs gx.toList)(hy:dO μ mm hh ys gy.toList)(d:Nat):∀{fs:List Field} {r:Bool},aae P fs xs ys=some r→
  (Op.eqFields (d+1) gx gy fs).run P w=.ok r w
 |[],r,h=>by cases h;simp[Op.eqFields]
 |f::fs,r,h=>by
  rw[aae] at h
  split at h
  ·rename_i x y hxo hyo
   cases hc : (Xt P f.type x && (f.name != "_")) with
   |false=>rw[hc] at h;cases h
   |true=>
    rw[hc,cond_true] at h
    rw[Bool.and_eq_true] at hc
    have hname : f.name ≠ "_" := by simpa using hc.2
    split at h
    ·rename_i a b ha hb
     cases h
     obtain⟨g1,e1,s1⟩:=SH hx hxo
     obtain⟨g2,e2,s2⟩:=SH hy hyo
     obtain⟨h1,⟨du,hu⟩,h2⟩:=an6 (w:=w) hc.1 ha s1 s2 d
     have p1:(Go.part f.type gx f.offset).run P w=.ok g1 w:=by
      have e1':gx[f.offset]? =some g1:=by simpa using e1
      simp[Go.part,OH hu,h2,e1']
     have p2:(Go.part f.type gy f.offset).run P w=.ok g2 w:=by
      have e2':gy[f.offset]? =some g2:=by simpa using e2
      simp[Go.part,OH hu,h2,e2']
     rw[Op.eqFields,if_pos hname]
     simp only[Sem.run_bind,p1,p2,h1,Result.andThen_ok]
     cases a with
     |false=>simp
     |true=>simpa using aa0 hx hy d hb
    ·cases h
  ·cases h
theorem af7{t:TypeId}(h:sliceT P t=true):∃e,P.underlying t=some (.slice e):=by
 unfold sliceT at h
 cases hd:P.underlying t with
 |none=>simp[hd] at h
 |some d=>rw[hd] at h;cases d<;>simp at h;exact⟨_,rfl⟩
theorem an7(hA:At base U M0 w0 w m G){x:V}{gx:Value}(hx:bJ G.μ m (Gh U w G) x gx){b:Bool}{l l':Log}(h:(alN x).run m l=some (b,m',l')):
  m'=m∧∃a n c,gx=.slice a n c∧b=a.isNone:=by
 have full:∀{o:Bool} {s:Nat} {rows:List Row} {g:Value} {h:View},ro h (.sl o s rows) g→1≤rows.length→∃a n c,g=.slice a n c∧false=a.isNone:=by
  intro o s rows g h hr hl
  simp only[ro] at hr
  obtain⟨a,cap,rfl,_,hs⟩:=hr
  obtain⟨b,o,rfl,_⟩:=hs (by intro e;rw[e] at hl;simp at hl)
  exact⟨_,_,_,rfl,rfl⟩
 unfold alN at h
 split at h
 ·simp only[run_pure,Option.some.injEq,Prod.mk.injEq] at h
  obtain⟨rfl,rfl,_⟩:=h
  simp only[bJ] at hx
  exact⟨rfl,_,_,_,hx,rfl⟩
 ·replace h:=aj h;obtain⟨_,m2,l2,h2,h⟩:=h
  obtain⟨hb,rfl,rfl⟩:=kT h2
  simp only[run_pure,Option.some.injEq,Prod.mk.injEq] at h
  obtain⟨rfl,rfl,_⟩:=h
  simp only[bJ] at hx
  exact⟨rfl,full hx (Nat.le_of_ble_eq_true hb)⟩
 ·rename_i r ver
  replace h:=aj h;obtain⟨c,m2,l2,h2,h⟩:=h
  rw[uO] at h2
  cases h2
  cases hc:get r m with
  |none=>rw[hc] at h;exact(au h).elim
  |some c=>
   rw[hc] at h
   cases c with
   |box _ _=>exact(au h).elim
   |dead=>exact(au h).elim
   |DJ iU s rows=>exact(au h).elim
   |arr fz fl iU s rows=>
    simp only at h
    replace h:=aj h;obtain⟨_,m2,l2,h2,h⟩:=h
    obtain⟨hb,rfl,rfl⟩:=kT h2
    rw[Bool.and_eq_true] at hb
    have hv:=Nat.eq_of_beq_eq_true hb.1
    subst hv
    simp only[run_pure,Option.some.injEq,Prod.mk.injEq] at h
    obtain⟨rfl,rfl,_⟩:=h
    have hro:=hA.ok.look hc (by rw[hA.out];simp) false
    simp only[bJ,hc] at hx
    rw[←hx.2.2 trivial] at hro
    exact⟨rfl,full hro (Nat.le_of_ble_eq_true hb.2)⟩
 ·exact(au h).elim
theorem VT{t e:TypeId}(h:P.underlying t=some (.slice e))(a:Option Addr)(n c:Nat):(Op.equal t (.slice a n c) (.slice none 0 0)).run P w=.ok a.isNone w:=by
 have:∀d,(Op.equalIn (d+1) t (.slice a n c) (.slice none 0 0)).run P w=.ok a.isNone w:=by
  intro d
  cases a<;>simp[Op.equalIn,run_underlying h]
 exact this 9999
theorem an8(hA:At base U M0 w0 w m G){op:BinOp}{t:TypeId}{ox oy:Operand}{x:V}{gx:Value}(hx:bJ G.μ m (Gh U w G) x gx){v:V}{l l':Log}(h:(alO P t op x).run m l=some (v,m',l')):
  DK base U M0 w0 w m G P (do eqGuard op t ox oy gx (.slice none 0 0);binOp op t gx (.slice none 0 0)) v m':=by
 unfold alO at h
 replace h:=aj h;obtain⟨_,m2,l2,h2,h⟩:=h
 obtain⟨hb,rfl,rfl⟩:=kT h2
 obtain⟨e,he⟩:=af7 hb
 replace h:=aj h;obtain⟨b,m2,l2,h2,h⟩:=h
 obtain⟨rfl,a,n,c,rfl,rfl⟩:=an7 hA hx h2
 have hg:(eqGuard op t ox oy (.slice a n c) (.slice none 0 0)).run P w=.ok () w:=YH (by simp) (by simp)
 cases op<;>try exact(au h).elim
 ·simp only[run_pure,Option.some.injEq,Prod.mk.injEq] at h
  obtain⟨rfl,rfl,_⟩:=h
  refine DK.same hA (g:=.bool a.isNone) ?_ (by simp only[bJ,ro])
  simp only[Sem.run_bind,hg,Result.andThen_ok,binOp,VT he,Sem.run_pure]
 ·simp only[run_pure,Option.some.injEq,Prod.mk.injEq] at h
  obtain⟨rfl,rfl,_⟩:=h
  refine DK.same hA (g:=.bool !a.isNone) ?_ (by simp only[bJ,ro])
  simp only[Sem.run_bind,hg,Result.andThen_ok,binOp,VT he,Sem.run_pure]
theorem atl(hA:At base U M0 w0 w m G){op:BinOp}{t:TypeId}{ox oy:Operand}{x y:V}{gx gy:Value}(hx:bJ G.μ m (Gh U w G) x gx)(hy:bJ G.μ m (Gh U w G) y gy){v:V}{l l':Log}(h:(avy P t op x y).run m l=some (v,m',l')):
  DK base U M0 w0 w m G P (do eqGuard op t ox oy gx gy;binOp op t gx gy) v m':=by
 unfold avy at h
 split at h
 ·rename_i cs
  cases y with
  |agg ds=>
   simp only[azI] at h
   replace h:=aj h;obtain⟨_,m1,l1,h1,h⟩:=h
   obtain⟨hg,rfl,rfl⟩:=eF h1
   simp only[Bool.and_eq_true,Bool.not_eq_true'] at hg
   replace h:=aj h;obtain⟨fs,m1,l1,h1,h⟩:=h
   obtain⟨hf,rfl,rfl⟩:=gU h1
   replace h:=aj h;obtain⟨r,m1,l1,h1,h⟩:=h
   obtain⟨hr,rfl,rfl⟩:=gU h1
   simp only[bJ] at hx hy
   obtain⟨a,rfl,ha⟩:=hx
   obtain⟨b,rfl,hb⟩:=hy
   have hst:P.underlying t=some (.struct (P.fieldsOf t))∧fs=(P.fieldsOf t).toList:=by
    unfold Program.fieldsOf
    split at hf
    ·rename_i fs' hu
     cases hf
     rw[hu]
     exact⟨rfl,rfl⟩
    ·cases hf
   obtain⟨hu,rfl⟩:=hst
   have he:=(run_equalIn_agg w 9999 t a b hu hg.1).trans (aa0 ha hb 9998 hr)
   have hgd:=run_eqGuard_agg w op t ox oy a b hg.2
   have fin:∀r':Bool,(binOp op t (.agg a) (.agg b)).run P w=.ok (.bool r') w→v=.d (.bool r')→m1=m'→DK base U M0 w0 w m1 G P (do eqGuard op t ox oy (.agg a) (.agg b);binOp op t (.agg a) (.agg b)) v m':=by
    intro r' e1 e2 e3
    subst e2 e3
    refine DK.same hA (g:=.bool r') ?_ (by simp only[bJ,ro])
    simp only[Sem.run_bind,hgd,Result.andThen_ok,e1]
   cases op<;>try exact(au h).elim
   ·simp only[run_pure,Option.some.injEq,Prod.mk.injEq] at h
    exact fin r (by rw[run_eql_struct,he];rfl) h.1.symm h.2.1
   ·simp only[run_pure,Option.some.injEq,Prod.mk.injEq] at h
    exact fin (!r) (by rw[run_neq_struct,he];rfl) h.1.symm h.2.1
  |d _=>exact(au h).elim
  |nil _=>exact(au h).elim
  |own _ _=>exact(au h).elim
  |ptr _ _=>exact(au h).elim
  |sS _ _ _ _=>exact(au h).elim
  |sJ _ _=>exact(au h).elim
  |clo _ _ _=>exact(au h).elim
  |yE _=>exact(au h).elim
  |undef=>exact(au h).elim
 ·split at h
  ·simp only[bJ] at hy
   subst hy
   exact an8 hA hx h
  ·exact avI hA hx hy h
theorem azS(hA:At base U M0 w0 w m G){op:UnOp}{x:V}{gx:Value}(hx:bJ G.μ m (Gh U w G) x gx){v:V}{l l':Log}(h:(un op x).run m l=some (v,m',l')):
  DK base U M0 w0 w m G P (Op.unary op gx) v m':=by
 unfold un at h
 split at h
 ·change some (_,_,_)=_ at h
  simp only[Option.some.injEq,Prod.mk.injEq] at h
  obtain⟨rfl,rfl,_⟩:=h
  simp only[bJ,ro] at hx
  subst hx
  refine DK.same hA (g:=.int _ _) (by simp only[Op.unary,Op.intArith,Sem.run_pure];rfl) (by simp[bJ,ro])
 ·change some (_,_,_)=_ at h
  simp only[Option.some.injEq,Prod.mk.injEq] at h
  obtain⟨rfl,rfl,_⟩:=h
  simp only[bJ,ro] at hx
  subst hx
  refine DK.same hA (g:=.bool _) (by simp only[Op.unary,Sem.run_pure];rfl) (by simp[bJ,ro])
 ·exact(au h).elim
theorem apD(hA:At base U M0 w0 w m G){c x y:V}{gc gx gy:Value}(hc:bJ G.μ m (Gh U w G) c gc)(hx:bJ G.μ m (Gh U w G) x gx)(hy:bJ G.μ m (Gh U w G) y gy){v:V}{l l':Log}(h:(apd c x y).run m l=some (v,m',l')):
  DK base U M0 w0 w m G P (do pure (if←Go.asBool gc then gx else gy)) v m':=by
 unfold apd at h
 split at h
 ·rename_i c
  simp only[bJ,ro] at hc
  subst hc
  split at h
  ·rename_i a b
   change some (_,_,_)=_ at h
   simp only[Option.some.injEq,Prod.mk.injEq] at h
   obtain⟨rfl,rfl,_⟩:=h
   simp only[bJ,ro] at hx hy
   subst hx hy
   refine DK.same hA (g:=.bool (bif c then a else b)) ?_ (by simp[bJ,ro])
   cases c<;>simp[Go.asBool]
  ·split at h
   ·change some (_,_,_)=_ at h
    simp only[Option.some.injEq,Prod.mk.injEq] at h
    obtain⟨rfl,rfl,_⟩:=h
    exact DK.same hA (g:=gx) (by simp[Go.asBool]) hx
   ·change some (_,_,_)=_ at h
    simp only[Option.some.injEq,Prod.mk.injEq] at h
    obtain⟨rfl,rfl,_⟩:=h
    exact DK.same hA (g:=gy) (by simp[Go.asBool]) hy
 ·exact(au h).elim
end
end Go.Vm
namespace Go.Vm
open Go
section
variable {base:Nat} {U:Nat→Prop} {M0:List Nat} {w0 w w':World} {m m':Mem} {G G':GS} {P:Program}
theorem YI{h:View}:∀{rows:List Row} {cs:List Value} {bs:List UInt8},bytesOf rows=some bs→fQ h 1 rows cs→cs.length=rows.length→
  ∃ns:List Int,cs=ns.map (Value.int .u8)∧bs=ns.map (fun n=>UInt8.ofNat n.toNat)
 |[],cs,bs,hb,_,hl=>by
  simp only[bytesOf,Option.some.injEq] at hb
  subst hb
  have:cs=[]:=List.length_eq_zero_iff.1 hl
  subst this
  exact⟨[],rfl,rfl⟩
 |r::rs,cs,bs,hb,hs,hl=>by
  simp only[bytesOf] at hb
  cases ha:asByte r with
  |none=>simp[ha] at hb
  |some b=>
   cases hb2:bytesOf rs with
   |none=>simp[ha,hb2] at hb
   |some bs2=>
    simp only[ha,hb2,Option.some.injEq] at hb
    subst hb
    simp only[fQ] at hs
    obtain⟨_,h1,h2⟩:=hs
    cases cs with
    |nil=>simp at hl
    |cons c cs=>
     obtain⟨ns,e1,e2⟩:=YI hb2 (by simpa using h2) (by simpa using hl)
     unfold asByte at ha
     split at ha
     ·rename_i n _
      simp only[Option.some.injEq] at ha
      subst ha
      simp only[jc] at h1
      obtain⟨v,cs',e,hv,_⟩:=h1
      simp only[ro] at hv
      simp only[List.cons.injEq] at e
      obtain⟨rfl,rfl⟩:=e
      exact⟨n::ns,by rw[hv,List.map_cons,e1],by rw[List.map_cons,e2]⟩
     ·cases ha
theorem foldl_push:∀(ns:List Int) (acc:List UInt8),ns.foldl (fun r n=>r.push (UInt8.ofNat n.toNat)) (ByteArray.mk ⟨acc⟩)=⟨⟨acc++ns.map (fun n=>UInt8.ofNat n.toNat)⟩⟩
 |[],acc=>by simp
 |n::ns,acc=>by
  rw[List.foldl_cons]
  have:(ByteArray.mk ⟨acc⟩).push (UInt8.ofNat n.toNat)=⟨⟨acc++[UInt8.ofNat n.toNat]⟩⟩:=by
   simp[ByteArray.push]
  rw[this,foldl_push ns]
  simp
theorem af8(hA:At base U M0 w0 w m G){src dst:TypeId}{x:V}{gx:Value}(hx:bJ G.μ m (Gh U w G) x gx){v:V}{l l':Log}(h:(aax P src dst x).run m l=some (v,m',l')):
  DK base U M0 w0 w m G P (convert src dst gx) v m':=by
 unfold aax at h
 split at h
 next hs hd=>
  split at h
  ·change some (_,_,_)=_ at h
   simp only[Option.some.injEq,Prod.mk.injEq] at h
   obtain⟨rfl,rfl,_⟩:=h
   simp only[bJ,ro] at hx
   subst hx
   refine DK.same hA (g:=.int _ _) ?_ (by simp only[bJ,ro];rfl)
   simp[convert,run_underlying hs,run_underlying hd,Conv.intToInt]
  ·exact(au h).elim
 next hs hd=>
  split at h
  ·change some (_,_,_)=_ at h
   simp only[Option.some.injEq,Prod.mk.injEq] at h
   obtain⟨rfl,rfl,_⟩:=h
   have hx0:=hx
   simp only[bJ,ro] at hx
   subst hx
   refine DK.same hA (g:=.string _) ?_ hx0
   simp[convert,run_underlying hs,run_underlying hd]
  ·exact(au h).elim
 next e hs hd=>
  replace h:=aj h;obtain⟨_,m1,l1,h1,h⟩:=h
  obtain⟨he,rfl,rfl⟩:=kT h1
  have he:P.underlying e=some (.int .u8):=by
   cases hu:P.underlying e with
   |none=>simp[hu] at he
   |some d=>
    rw[hu] at he;cases d<;>first|(simp at he;done)|(rename_i k;cases k<;>first|rfl|(simp at he;done))
  replace h:=aj h;obtain⟨⟨s,rows⟩,m1,l1,h1,h⟩:=h
  obtain⟨rfl,hq⟩:=amV hA.ok hx hA.out h1
  simp only at h
  replace h:=aj h;obtain⟨_,m2,l2,h2,h⟩:=h
  obtain⟨hs1,rfl,rfl⟩:=eF h2
  have hs1:=Nat.eq_of_beq_eq_true hs1
  subst hs1
  replace h:=aj h;obtain⟨bs,m2,l2,h2,h⟩:=h
  obtain⟨hb,rfl,rfl⟩:=gU h2
  simp only[run_pure,Option.some.injEq,Prod.mk.injEq] at h
  obtain⟨rfl,rfl,_⟩:=h
  simp only[ro] at hq
  obtain⟨a,cap,rfl,hcap,hne⟩:=hq
  refine DK.same hA (g:=.string ⟨⟨bs⟩⟩) ?_ (by simp only[bJ,ro])
  rw[run_convert_bytes_string w src dst e a rows.length cap hs he hd]
  by_cases hr:rows=[]
  ·subst hr
   simp only[bytesOf,Option.some.injEq] at hb
   subst hb
   cases a with
   |none=>simp[Conv.bytesToString];rfl
   |some a=>
    have hl:=run_loadCells_list (P:=P) w a [] (by simp)
    have:=run_bytesToString (P:=P) w a 0 cap [] (by simpa using hl)
    exact this
  ·obtain⟨b,o,rfl,hrr⟩:=hne hr
   obtain⟨cs,hl,hc,hss⟩:=PN rows o hrr
   rw[Nat.mul_one] at hl
   obtain⟨ns,rfl,rfl⟩:=YI hb hss hl
   have hlc:=run_loadCells_list (P:=P) w ⟨b,o,none⟩ (ns.map (Value.int .u8)) (fun j v hj=>by
    rw[Ho]
    exact hc j v hj)
   rw[hl] at hlc
   rw[run_bytesToString w _ rows.length cap ns hlc]
   have:=foldl_push ns []
   rw[List.nil_append] at this
   rw[←this]
   rfl
 next=>exact(au h).elim
theorem apE{μ:Nat→Value}{h:View}{vs:List V}{a:Array Value}{i:Nat}{v:V}(q:dO μ m h vs a.toList)(hi:vs[i]? =some v):∃x,a[i]? =some x∧bJ μ m h v x:=by
 obtain⟨x,h1,h2⟩:=SH q hi
 exact⟨x,by simpa using h1,h2⟩
end
end Go.Vm
namespace Go.Vm
open Go
def Zg(gs:List Value):Value:=match gs with
 |[g]=>g
 |gs=> .tuple gs.toArray
def am3:List Cell→List Cell→Prop
 |[],cs=>cs=[]
 |c::cs,ds=>∃d ds',ds=d::ds'∧sameKind c d∧am3 cs ds'
theorem aa1{a b c:Cell}(h:sameKind a b)(k:sameKind b c):sameKind a c:=by
 cases a<;>cases b<;>cases c<;>simp only[sameKind] at h k⊢
 ·exact h.trans k
 ·exact⟨h.1,k.2.1,h.2.2.1.trans k.2.2.1,h.2.2.2.trans k.2.2.2⟩
theorem YJ{m:Mem}:∀{rs:List Nat} {cs ds:List Cell},kinds m rs cs→am3 cs ds→kinds m rs ds
 |[],cs,ds,h,k=>by
  simp only[kinds] at h
  subst h
  exact k
 |r::rs,cs,ds,h,k=>by
  obtain⟨c,c',cs',rfl,h1,h2,h3⟩:=h
  obtain⟨d,ds',rfl,k1,k2⟩:=k
  exact⟨c,d,ds',rfl,h1,aa1 h2 k1,YJ h3 k2⟩
structure Given(X:Ctx)(base:Nat)(U:Nat→Prop)(w:World)(f:FuncId)(args:List V)(cells:List Cell)(gargs kD:List Value)(N1 N2:List Nat):Prop where
 nd:(N1++N2).Nodup
 lt:∀b,b∈N1++N2→b<w.heap.size∧base≤b∧U b
 up:∀b,w.heap.size≤b→U b
 bs:base≤w.heap.size
 args:LK X.Jd f (impμ kD) (qj 0 cells) (dR w) (view w U (· ∈N1++N2)) 0 args gargs N1
 cells:cellsB (dR w) (view w U (· ∈N1++N2)) cells kD N2
 gl:aaC X (view w U (· ∈N1++N2))
structure Did(P:Program)(U:Nat→Prop)(w w':World)(N:List Nat)(ts:List TypeId)(cells outs:List Cell)(kD:List Value)(rows:List Row)(gs:List Value)(M1 M2:List Nat):Prop where
 keep:Keep N w w'
 nd:(M1++M2).Nodup
 mem:∀b,b∈M1++M2→(b∈N∨w.heap.size≤b)∧b<w'.heap.size
 kd:am3 cells outs
 cells:cellsB (dR w') (view w' U (· ∈M1++M2)) outs kD M1
 res:NS P (dR w') (view w' U (· ∈M1++M2)) ts rows gs M2
def Sound(X:Ctx)(K:jo):Prop:=∀(f:FuncId) (fn:Func) (args:List V) (cells:List Cell) (rows:List Row) (outs:List Cell),X.P.funcs[f]? =some fn→fn.body.isSome=true→K f args cells=some (rows,outs)→
 ∀(base:Nat) (U:Nat→Prop) (w:World) (gargs kD:List Value) (N1 N2:List Nat),Given X base U w f args cells gargs kD N1 N2→
  Calls X.P f gargs.toArray w fun e w'=>∃gs M1 M2,e=.returned (Zg gs)∧Did X.P U w w' (N1++N2) fn.resultTypes.toList cells outs kD rows gs M1 M2
section
variable {base:Nat} {U:Nat→Prop} {M0:List Nat} {w0 w w':World} {m m':Mem} {G G':GS} {X:Ctx}
theorem BL.outs(hg:BL base U w m G){out:List Nat}(h:∀r,r∈G.out↔r∈out):BL base U w m {G with out:=out}:=
 ⟨fun r c hc ho=>hg.cell r c hc (fun hx=>ho ((h r).1 hx)),hg.dj,hg.djE,hg.nd,hg.ndE,hg.lt,hg.up,hg.bs,hg.none_,fun r hr=>hg.out_ r ((h r).2 hr)⟩
theorem At.first(hA:At base U M0 w0 w m G):(view w0 U (· ∈M0)).le (Gh U w G):=by
 intro b o v hv
 obtain⟨h1,h2,h3⟩:=Xx hv
 have hb:b<w0.heap.size:=by
  simp only[World.cell?] at h3
  cases ho:w0.heap[b]? with
  |none=>simp[ho] at h3
  |some x=>exact(Array.getElem?_eq_some_iff.1 ho).1
 have hk:=hA.fr.keep.block b hb h2
 refine aaf h1 (fun hx=> ?_) ?_
 ·rcases hA.fr.fr b hx with h|h
  ·exact h2 h
  ·omega
 ·simp only[World.cell?] at h3⊢
  rw[hk]
  exact h3
structure QW(X:Ctx)(K:jo)(U:Nat→Prop)(M0:List Nat)(w0:World):Prop where
 sound:Sound X K
 gl:aaC X (view w0 U (· ∈M0))
theorem apF{K:jo}(hKG:QW X K U M0 w0)(hA:At base U M0 w0 w m G){fn dst f:Nat}{args:List V}{gargs:List Value}(hs:dO G.μ m (Gh U w G) args gargs){v:V}{l l':Log}(h:(Vy X K fn dst f args).run m l=some (v,m',l')):
  (callFunc f gargs.toArray).run X.P w=.ok (.enter f gargs.toArray) w∧
  Calls X.P f gargs.toArray w fun e w'=>∃g G',e=.returned g∧Nx base U M0 w0 w m G w' m' G'∧bJ G'.μ m' (Gh U w' G') v g:=by
 have hK:=hKG.sound
 simp only[Vy] at h
 replace h:=aj h;obtain⟨g,m1,l1,h1,h⟩:=h
 obtain⟨hf,rfl,rfl⟩:=gU h1
 replace h:=aj h;obtain⟨_,m1,l1,h1,h⟩:=h
 obtain⟨hbody,rfl,rfl⟩:=eF h1
 simp only[Bool.and_eq_true,Bool.not_eq_true'] at hbody
 have hnone:g.body≠none:=by
  intro hb
  simp[hb] at hbody
 have hnm : g.name ≠ "runtime.NumGoroutine" := by
  intro he
  simp[he] at hbody
 refine⟨by simp[callFunc,hf,hnm,hnone], ?_⟩
 generalize himp:LH X.Jd f 0 [] args=imp at h
 have hnd:imp.Nodup:=by rw[←himp];exact TJ _ _ _ _ _ (by simp)
 replace h:=aj h;obtain⟨args1,m1,l1,h1,h⟩:=h
 obtain⟨G1,N1,t1,q1⟩:=Yr hA.ok hs hA.out h1
 have hout1:G1.out=[]:=t1.out.trans hA.out
 have hE1:G1.E=N1:=by rw[t1.E,hA.E];rfl
 replace h:=aj h;obtain⟨cells,m2,l2,h2,h⟩:=h
 obtain⟨G2,N2,t2,q2,kd2⟩:=Xw t1.ok hnd (fun r hr=>⟨hr,by rw[hout1];simp⟩) (fun r hr=>by rw[hout1] at hr;simp at hr) h2
 have hout2:∀r,r∈G2.out↔r∈imp:=fun r=>by rw[t2.out,hout1];simp
 have hE2:G2.E=N1++N2:=by rw[t2.E,hE1]
 have hkd:kinds m2 imp cells:=VF (fun r hr=>t2.here r hr) kd2
 have hq1:=OG (A:=X.Jd) (f:=f) t2.le.mem t2.le.view (H':=dR w) (fun _ _=>rfl) q1
 replace h:=aj h;obtain⟨⟨args2,KL⟩,m3,l3,h3,h⟩:=h
 have C:amW base U w m2 G2 imp cells:=⟨t2.ok,hout2,hkd⟩
 obtain⟨rfl,hq2⟩:=Yt C hq1 h3
 have hq2:=hq2 KL (fun _ hr=>hr)
 simp only at h
 replace h:=aj h;obtain⟨_,m4,l4,h4,h⟩:=h
 obtain⟨am4,rfl,rfl⟩:=eF h4
 have am4:∀r,r∈KL→r ∉ imp:=fun r hr=>OE (List.all_eq_true.1 am4 r hr)
 replace h:=aj h;obtain⟨⟨rows,outs⟩,m4,l4,h4,h⟩:=h
 obtain⟨hKr,rfl,rfl⟩:=gU h4
 simp only at h
 replace h:=aj h;obtain⟨_,m4,l4,h4,h⟩:=h
 obtain⟨hlen,rfl,rfl⟩:=eF h4
 have al3:Given X base (VI U G2 KL) w f args2 cells gargs (imp.map G2.μ) N1 N2:=by
  refine⟨by rw[←hE2];exact t2.ok.ndE, ?_, ?_,t2.ok.bs,by rw[←hE2];exact hq2, ?_,by rw[←hE2];exact C9 PE (C9 t2.le.view (C9 t1.le.view (C9 hA.first hKG.gl)))⟩
  ·intro b hb
   rw[←hE2] at hb
   have:=t2.ok.lt b (.inl hb)
   exact⟨this.1,this.2.1,this.2.2,fun r hr=>absurd hb (t2.ok.djE r b hr)⟩
  ·intro b hb
   exact⟨t2.ok.up b hb,fun r hr=>by have:=(t2.ok.lt b (.inr ⟨r,hr⟩)).1;omega⟩
  ·rw[←hE2,t2.μ]
   exact GN PE q2
 refine Calls.mono (hK f g args2 cells rows outs hf hbody.1 hKr base _ w gargs _ N1 N2 al3) ?_
 rintro e w' ⟨gs,M1,M2,rfl,D⟩
 have hkeep:Keep G2.E w w':=by rw[hE2];exact D.keep
 obtain⟨k3,v3⟩:=t2.ok.world hkeep (E':=M1++M2) D.nd (fun b hb=>by rw[hE2];exact D.mem b hb)
 generalize auQ:(!(KL.isEmpty) &&(SC X.P (X.Jd.Zd fn dst) 0 g.resultTypes.toList && imp.isEmpty))=need at h
 replace h:=aj h;obtain⟨_,m4,l4,h4,h⟩:=h
 obtain⟨hpure,rfl,rfl⟩:=eF h4
 replace h:=aj h;obtain⟨_,m4,l4,h4,h⟩:=h
 have hL:∀r,r∈(bif need then[] else KL)→r∈KL:=by
  intro r hr
  cases need with
  |true=>simp at hr
  |false=>exact hr
 obtain⟨F',k4,le4,f1,f2,f3⟩:=adD k3 (fun r hr=>by
  show r ∉ G2.out
  rw[hout2]
  exact am4 r (hL r hr)) h4
 replace h:=aj h;obtain⟨_,m5,l5,h5,h⟩:=h
 have k4':=k4.outs (out:=imp) hout2
 have aKn:kinds m4 imp (outs.drop 0):=by
  rw[List.drop_zero]
  exact VF (fun r hr=>f3 r (fun hx=>am4 r (hL r hx) hr)) (YJ hkd D.kd)
 have auR:need=false→(view w' (VI U G2 KL) (· ∈M1++M2)).le (Gh U w' ⟨G2.μ,F',M1++M2,imp⟩):=by
  intro hn b o x hx
  obtain⟨p1,p2,p3⟩:=Xx hx
  refine aaf p1.1 ?_ p3
  rintro(hb|⟨r,hb⟩)
  ·exact p2 hb
  ·have hb:b∈F' r:=hb
   rcases f2 r with hr|hr
   ·rw[hr] at hb;simp at hb
   ·have:b∈G2.F r:=by rw[hr] at hb;exact hb
    have hrl:=p1.2 r this
    have:=f1 r (by rw[hn];exact hrl)
    rw[this] at hb;simp at hb
 have hcells:cellsB (dR w') (Gh U w' ⟨G2.μ,F',M1++M2,imp⟩) (outs.drop 0) (imp.map G2.μ) M1:=by
  rw[List.drop_zero]
  cases need with
  |false=>exact GN (auR rfl) D.cells
  |true=>
   simp only[Bool.and_eq_true,List.isEmpty_iff] at auQ
   have azT:=auQ.2.2
   subst azT
   have hc0:cells=[]:=by simpa[kinds] using hkd
   subst hc0
   have ho0:outs=[]:=D.kd
   subst ho0
   exact D.cells
 have hres:NS X.P (dR w') (Gh U w' ⟨G2.μ,F',M1++M2,imp⟩) g.resultTypes.toList rows gs M2:=by
  cases need with
  |false=>exact MJ (auR rfl) (fun _ _=>rfl) D.res
  |true=>exact aaP hpure D.res
 obtain⟨G5,c5⟩:=VL k4' hnd rfl aKn (N:=M1) (E:=M2) (List.Perm.refl _) hcells h5
 replace h:=aj h;obtain⟨vs,m6,l6,h6,h⟩:=h
 obtain⟨G6,c6,s6⟩:=adG (ri:=0) c5.ok (fun r hr=>by rw[c5.out] at hr;simp at hr) (N:=M2) (E:=[]) (by rw[c5.E];simp) (by
  rw[List.drop_zero]
  exact MJ c5.le.view (fun _ _=>rfl) hres) h6
 have hm6:m'=m6∧bJ G6.μ m6 (Gh U w' G6) v (Zg gs):=by
  have auS:=jQ s6
  split at h
  ·simp only[run_pure,Option.some.injEq,Prod.mk.injEq] at h
   obtain⟨rfl,rfl,_⟩:=h
   obtain⟨g0,gs0,rfl,q1,q2⟩:=oG s6
   simp only[dO] at q2
   subst q2
   exact⟨rfl,q1⟩
  ·rename_i hne
   simp only[run_pure,Option.some.injEq,Prod.mk.injEq] at h
   obtain⟨rfl,rfl,_⟩:=h
   refine⟨rfl, ?_⟩
   unfold Zg
   split
   ·rename_i g0
    cases vs with
    |nil=>simp at auS
    |cons v0 vs=>
     cases vs with
     |nil=>exact absurd rfl (hne v0)
     |cons _ _=>simp at auS
   ·simp only[bJ]
    exact⟨_,rfl,by simpa using s6⟩
 obtain⟨rfl,Lh⟩:=hm6
 have aKo:∀b,excl G2.F G2.E b→excl G.F G.E b:=fun b hb=>t1.le.ex b (t2.le.ex b hb)
 have hold:∀b,excl G2.F G2.E b→b∈M0∨w0.heap.size≤b:=fun b hb=>hA.fr.fr b (aKo b hb)
 refine⟨Zg gs,G6,rfl,⟨c6.ok,c6.E,c6.out.trans c5.out, ?_, ?_, ?_, ?_⟩,Lh⟩
 ·have a1:=rC t1.le.mem t2.le.mem
  have a2:=rC a1 le4.mem
  exact rC (rC a2 c5.le.mem) c6.le.mem
 ·exact(((t1.le.view.trans' t2.le.view).trans' v3).trans' le4.view).trans' (c5.le.view.trans' c6.le.view)
 ·exact hA.fr.keep.trans hkeep (fun x hx=>hold x (.inl hx))
 ·intro b hb
  have hb:=c5.le.ex b (c6.le.ex b hb)
  rcases hb with hb|⟨r,hb⟩
  ·rcases(D.mem b hb).1 with h'|h'
   ·exact hold b (.inl (by rw[hE2];exact h'))
   ·exact .inr (Nat.le_trans hA.fr.keep.size h')
  ·have hb:b∈F' r:=hb
   rcases f2 r with hr|hr
   ·have:F' r=[]:=hr
    rw[this] at hb;simp at hb
   ·exact hold b (.inr ⟨r,by have:F' r=G2.F r:=hr;rw[←this];exact hb⟩)
end
end Go.Vm
namespace Go.Vm
open Go
section
variable {base:Nat} {U:Nat→Prop} {M0:List Nat} {w0 w w':World} {m m':Mem} {G G':GS} {X:Ctx}
theorem azU(P:Program)(w:World)(s:Sem Value):((do pure (.value (←s))):Sem Next).run P w=(s.run P w).andThen fun g w'=> .ok (.value g) w':=by
 simp only[Sem.run_bind,Sem.run_pure]
theorem Ht{o:Oper}{a:Act}{next:Act→World→Prop}{Q:Exit→Act→World→Prop}{s:Sem Value}{v:V}
  (he:(execOp a.eval o).run X.P w=((do pure (.value (←s))):Sem Next).run X.P w) (h:DK base U M0 w0 w m G X.P s v m')
  (hn:∀g w' G',Nx base U M0 w0 w m G w' m' G'→bJ G'.μ m' (Gh U w' G') v g→next (a.put o.dst g) w'):o.wp X.P a w next Q:=by
 obtain⟨g,w',G',hr,hx,hs⟩:=h
 exact ET (by rw[he,azU,hr];rfl) (hn g w' G' hx hs)
theorem al4{P:Program}{tm:jP}{xs:List Operand}{ts:List TypeId}{a:V}(h:ru P tm xs ts=[a]):∃x,xs=[x]∧a=ev P tm (ts.headD 0) x:=by
 cases xs with
 |nil=>simp[ru] at h
 |cons x xs=>
  cases xs with
  |nil=>simp only[ru,List.cons.injEq,and_true] at h;exact⟨x,rfl,h.symm⟩
  |cons _ _=>simp[ru] at h
theorem UK{P:Program}{tm:jP}{xs:List Operand}{ts:List TypeId}{a b:V}(h:ru P tm xs ts=[a,b]):∃x y,xs=[x,y]∧a=ev P tm (ts.headD 0) x∧b=ev P tm (ts.tail.headD 0) y:=by
 cases xs with
 |nil=>simp[ru] at h
 |cons x xs=>
  cases xs with
  |nil=>simp[ru] at h
  |cons y xs=>
   cases xs with
   |nil=>simp only[ru,List.cons.injEq,and_true] at h;exact⟨x,y,rfl,h.1.symm,h.2.symm⟩
   |cons _ _=>simp[ru] at h
theorem OO{α:Type}{a:Array α}{l:List α}(h:a.toList=l):a=l.toArray:=by
 rw[←h]
theorem avJ(hg:aaC X (Gh U w G)){tm:jP}{a:Act}(hT:VN G.μ m (Gh U w G) tm a)(t:TypeId)(x:Operand):bJ G.μ m (Gh U w G) (evG X tm t x) (a.eval x):=by
 cases x with
 |global g=>
  simp only[evG]
  cases hr:X.glob g with
  |none=>simp[bJ]
  |some row=>
   simp only[bJ]
   exact⟨g,0,rfl,hg.row g row hr⟩
 |tmp i=>exact OI (P:=X.P) hT t (.tmp i)
 |const v=>exact OI (P:=X.P) hT t (.const v)
 |func f=>exact OI (P:=X.P) hT t (.func f)
theorem avK{K:jo}(hK:QW X K U M0 w0)(hA:At base U M0 w0 w m G){fn:Nat}{tm:jP}{a:Act}(hT:VN G.μ m (Gh U w G) tm a){o:Oper}{v:V}{l l':Log}(h:(vop X K fn tm o).run m l=some (v,m',l'))
  {next:Act→World→Prop} {Q:Exit→Act→World→Prop} (hn:∀g w' G',Nx base U M0 w0 w m G w' m' G'→bJ G'.μ m' (Gh U w' G') v g→next (a.put o.dst g) w'):o.wp X.P a w next Q:=by
 have E:=fun t x=>OI (P:=X.P) hT t x
 have EG:=fun t x=>avJ (C9 hA.first hK.gl) hT t x
 unfold vop at h
 simp only at h
 split at h
 ·rename_i x hop
  simp only[run_pure,Option.some.injEq,Prod.mk.injEq] at h
  obtain⟨rfl,rfl,_⟩:=h
  exact ET (by simp[execOp,hop]) (hn _ _ _ hA.nx (E _ x))
 ·rename_i x hop
  simp only[run_pure,Option.some.injEq,Prod.mk.injEq] at h
  obtain⟨rfl,rfl,_⟩:=h
  exact ET (by simp[execOp,hop]) (hn _ _ _ hA.nx (E _ x))
 ·rename_i c x y hop
  refine Ht ?_ (apD hA (E _ c) (E _ x) (E _ y) h) hn
  simp[execOp,hop]
 ·rename_i T hop
  replace h:=aj h;obtain⟨z,m1,l1,h1,h⟩:=h
  obtain⟨hz,rfl,rfl⟩:=gU h1
  replace h:=aj h;obtain⟨u,m2,l2,h2,h⟩:=h
  simp only[run_pure,Option.some.injEq,Prod.mk.injEq] at h
  obtain⟨rfl,rfl,_⟩:=h
  refine Ht ?_ (apx hA hz h2) hn
  simp[execOp,hop]
 ·rename_i T x hop
  replace h:=aj h;obtain⟨_,m1,l1,h1,h⟩:=h
  obtain⟨hsz,rfl,rfl⟩:=eF h1
  replace h:=aj h;obtain⟨_,m1,l1,h1,h⟩:=h
  obtain⟨hone,rfl,rfl⟩:=eF h1
  replace h:=aj h;obtain⟨u,m2,l2,h2,h⟩:=h
  simp only[run_pure,Option.some.injEq,Prod.mk.injEq] at h
  obtain⟨rfl,rfl,_⟩:=h
  refine Ht ?_ (avG hA (E T x) hone h2) hn
  simp[execOp,hop]
 ·rename_i T ps hop
  refine Ht ?_ (anZ hA hT h) hn
  simp[execOp,hop]
 ·rename_i t n ps hop
  refine Ht ?_ (aaX hA hT h) hn
  simp[execOp,hop]
 ·rename_i t x hop
  obtain⟨g,hr,rfl,hs⟩:=apv hA (EG 0 x) h
  refine Ht ?_ (DK.same hA hr hs) hn
  simp[execOp,hop]
 ·rename_i t x y hop
  replace h:=aj h;obtain⟨u,m1,l1,h1,h⟩:=h
  simp only[run_pure,Option.some.injEq,Prod.mk.injEq] at h
  obtain⟨rfl,rfl,_⟩:=h
  obtain⟨w',G',hr,hx⟩:=anX hA (E 0 x) (E t y) h1
  refine wp_skip (w':=w') ?_ (hn _ _ _ hx trivial)
  simp[execOp,hop,hr]
 ·rename_i x hop
  have hE:=EG o.type x
  have key:∀{b:Nat} {q:Nat},a.eval x=.pointer (some ⟨b,q,none⟩)→v=evG X tm o.type x→m'=m→o.wp X.P a w next Q:=by
   intro b q hx hv hm
   subst hm
   refine ET (g:=a.eval x) ?_ (hn _ _ _ hA.nx (by rw[hv];exact hE))
   simp[execOp,hop,hx]
  split at h
  ·rename_i r off hv
   simp only[run_pure,Option.some.injEq,Prod.mk.injEq] at h
   rw[hv] at hE key
   obtain⟨b,q,hp⟩:=hE.1
   exact key hp h.1.symm h.2.1.symm
  ·rename_i row off hv
   simp only[run_pure,Option.some.injEq,Prod.mk.injEq] at h
   rw[hv] at hE key
   obtain⟨b,q,hp,_⟩:=hE
   exact key hp h.1.symm h.2.1.symm
  ·rename_i r ver i off hv
   simp only[run_pure,Option.some.injEq,Prod.mk.injEq] at h
   rw[hv] at hE key
   obtain⟨b,q,hp⟩:=hE.1
   exact key hp h.1.symm h.2.1.symm
  ·exact(au h).elim
 ·rename_i op t x y t' hop
  refine Ht ?_ (atl (ox:=x) (oy:=y) hA (E t x) (E t' y) h) hn
  simp[execOp,hop]
 ·rename_i op t x hop
  refine Ht ?_ (azS hA (E t x) h) hn
  simp[execOp,hop]
 ·rename_i s d x hop
  refine Ht ?_ (af8 hA (E s x) h) hn
  simp[execOp,hop]
 ·rename_i f first caps hop
  simp only[run_pure,Option.some.injEq,Prod.mk.injEq] at h
  obtain⟨rfl,rfl,_⟩:=h
  refine ET (g:=.func (.func f) (first.map a.eval) (caps.map a.eval)) (by simp[execOp,hop,Instr.makeFunc]) (hn _ _ _ hA.nx ?_)
  simp only[bJ]
  exact⟨_,_,rfl,by simpa using SK (P:=X.P) hT first.toList [],by simpa using SK (P:=X.P) hT caps.toList []⟩
 ·rename_i t x y hop
  refine Ht ?_ (ac7 hA (E _ x) (E _ y) h) hn
  simp[execOp,hop]
 ·rename_i t x lo hi hop
  have gen:(aeE X.P t (evG X tm t x) (lo.map (ev X.P tm 3)) (hi.map (ev X.P tm 3))).run m l=some (v,m',l')→o.wp X.P a w next Q:=by
   intro h
   refine Ht ?_ (an3 (glo:=lo.map a.eval) (ghi:=hi.map a.eval) hA (EG _ x) ?_ ?_ h) hn
   ·simp[execOp,hop]
   ·cases lo with
    |none=>rfl
    |some x=>exact⟨_,rfl,E _ x⟩
   ·cases hi with
    |none=>rfl
    |some x=>exact⟨_,rfl,E _ x⟩
  cases ht:X.Jd.trunc fn (o.dst.getD 0) with
  |false=>
   rw[ht] at h
   exact gen h
  |true=>
   rw[ht] at h
   cases lo with
   |some z=>
    cases hi with
    |some _=>exact gen h
    |none=>
     refine Ht ?_ (apC hA (E _ x) (E _ z) h) hn
     simp[execOp,hop]
   |none=>
    refine Ht ?_ (an4 (ghi:=hi.map a.eval) hA (E _ x) ?_ h) hn
    ·simp[execOp,hop]
    ·cases hi with
     |none=>rfl
     |some x=>exact⟨_,rfl,E _ x⟩
 ·rename_i T x f hop
  refine Ht ?_ (ac4 hA (E _ x) h) hn
  simp[execOp,hop]
 ·rename_i T x f hop
  refine Ht ?_ (an0 hA (E _ x) h) hn
  simp[execOp,hop]
 ·rename_i t x i hop
  refine Ht ?_ (ac6 hA (EG _ x) (E _ i) h) hn
  simp[execOp,hop]
 ·rename_i t x i hop
  refine Ht ?_ (an1 hA (E _ x) (E _ i) h) hn
  simp[execOp,hop]
 ·rename_i x i hop
  split at h
  ·rename_i vs hv
   obtain⟨hi,rfl,rfl⟩:=gU h
   have hE:=E 0 x
   rw[hv] at hE
   simp only[bJ] at hE
   obtain⟨arr,ha,hs⟩:=hE
   obtain⟨g,hg,hq⟩:=apE hs hi
   refine ET (g:=g) ?_ (hn _ _ _ hA.nx hq)
   simp[execOp,hop,ha,Instr.extract,hg]
  ·exact(au h).elim
 ·rename_i f args tys hop
  split at h
  ·rename_i g first caps hv
   have hE:=E 0 f
   rw[hv] at hE
   simp only[bJ] at hE
   obtain⟨fa,ca,hf,hs1,hs2⟩:=hE
   have hargs:=Hq (Hq hs1 (SK (P:=X.P) hT args.toList tys.toList)) hs2
   obtain⟨he,hc⟩:=apF hK hA hargs h
   have harr:(fa.toList++args.toList.map a.eval++ca.toList).toArray=fa++args.map a.eval++ca:=by
    apply Array.ext'
    simp
   rw[harr] at he hc
   unfold Oper.wp
   have hrun:(execOp a.eval o).run X.P w=.ok (.enter g (fa++args.map a.eval++ca)) w:=by
    simp only[execOp,hop,resolve,hf,Deferred.ofValue,Sem.run_bind,Sem.run_pure,Result.andThen_ok,invoke,he]
   rw[hrun,Oper.upon_enter]
   refine Calls.mono hc ?_
   rintro e w' ⟨g',G',rfl,hx,hq⟩
   exact hn g' w' G' hx hq
  ·exact(au h).elim
 ·rename_i args tys hop
  split at h
  ·rename_i x hx
   obtain⟨ox,hxs,rfl⟩:=al4 hx
   replace h:=aj h;obtain⟨_,m1,l1,h1,h⟩:=h
   obtain⟨hk,rfl,rfl⟩:=eF h1
   have hx0:=E (tys.toList.headD 0) ox
   unfold azJ at hk
   split at hk
   ·rename_i t ht
    have hxs:=OO hxs
    have hts:=OO ht
    refine Ht (s:=Builtin.len_ #[t] o.type #[a.eval ox]) ?_ (ath hA hx0 ?_ ?_ h) hn
    ·simp[execOp,hop,resolve,invoke,builtin,hxs,hts]
    ·intro s hs
     rw[hs] at hk
     simp only at hk
     cases hu:X.P.underlying t with
     |none=>rw[hu] at hk;cases hk
     |some d=>rw[hu] at hk;cases d<;>simp at hk;rfl
    ·intro hs
     split at hk
     ·rename_i s hv;exact absurd hv (hs s)
     ·cases hu:X.P.underlying t with
      |none=>rw[hu] at hk;cases hk
      |some d=>rw[hu] at hk;cases d<;>simp at hk;exact⟨_,rfl⟩
   ·cases hk
  ·exact(au h).elim
 ·rename_i args tys hop
  split at h
  ·rename_i x y t t' hxy ht
   obtain⟨ox,oy,hxs,rfl,rfl⟩:=UK hxy
   have hxs:=OO hxs
   have hts:=OO ht
   refine Ht (s:=Builtin.append_ #[t,t'] o.type #[a.eval ox,a.eval oy]) ?_ (al0 hA (E _ ox) (E _ oy) h) hn
   simp[execOp,hop,resolve,invoke,builtin,hxs,hts]
  ·exact(au h).elim
 ·rename_i args tys hop
  split at h
  ·rename_i k x k' y hxy
   obtain⟨ox,oy,hxs,h1,h2⟩:=UK hxy
   have hxs:=OO hxs
   have e1:=E (tys.toList.headD 0) ox
   have e2:=E (tys.toList.tail.headD 0) oy
   rw[←h1] at e1
   rw[←h2] at e2
   simp only[bJ,ro] at e1 e2
   simp only[run_pure,Option.some.injEq,Prod.mk.injEq] at h
   obtain⟨rfl,rfl,_⟩:=h
   refine ET (g:=.int k (bif decide (x<y) then y else x)) ?_ (hn _ _ _ hA.nx (by simp[bJ,ro]))
   by_cases hlt:x<y<;>simp[execOp,hop,resolve,invoke,builtin,hxs,e1,e2,Builtin.max_,Builtin.max2,hlt]
  ·exact(au h).elim
 ·rename_i args tys hop
  split at h
  ·rename_i k x k' y hxy
   obtain⟨ox,oy,hxs,h1,h2⟩:=UK hxy
   have hxs:=OO hxs
   have e1:=E (tys.toList.headD 0) ox
   have e2:=E (tys.toList.tail.headD 0) oy
   rw[←h1] at e1
   rw[←h2] at e2
   simp only[bJ,ro] at e1 e2
   simp only[run_pure,Option.some.injEq,Prod.mk.injEq] at h
   obtain⟨rfl,rfl,_⟩:=h
   refine ET (g:=.int k (bif decide (y<x) then y else x)) ?_ (hn _ _ _ hA.nx (by simp[bJ,ro]))
   by_cases hlt:y<x<;>simp[execOp,hop,resolve,invoke,builtin,hxs,e1,e2,Builtin.min_,Builtin.min2,hlt]
  ·exact(au h).elim
 ·exact(au h).elim
end
end Go.Vm
namespace Go.Vm
open Go
theorem an9{α:Type}(A:Acc α):∀{m:Mem} {l:Log} {v:α} {m':Mem} {l':Log},A.run m l=some (v,m',l')→
  ∃R W,l'=⟨R++l.r,W++l.w⟩∧(∀k,k ∉ W→get k m'=get k m)∧
   ∀m2 l2,(∀k,k∈R→get k m2=get k m)→∃m2',A.run m2 l2=some (v,m2',⟨R++l2.r,W++l2.w⟩)∧(∀k,k∈W→get k m2'=get k m')∧(∀k,k ∉ W→get k m2'=get k m2):=by
 induction A with
 |ret a=>
  intro m l v m' l' h
  simp only[Acc.run,Option.some.injEq,Prod.mk.injEq] at h
  obtain⟨rfl,rfl,rfl⟩:=h
  exact⟨[],[],rfl,fun _ _=>rfl,fun m2 l2 _=>⟨m2,rfl,fun _ h=>by simp at h,fun _ _=>rfl⟩⟩
 |fail=>intro m l v m' l' h;simp[Acc.run] at h
 |get k c ih=>
  intro m l v m' l' h
  simp only[Acc.run] at h
  obtain⟨R,W,e,h1,h2⟩:=ih _ h
  refine⟨R++[k],W,by rw[e];simp[Log.rd],h1,fun m2 l2 hm=> ?_⟩
  obtain⟨m2',q1,q2,q3⟩:=h2 m2 (l2.rd k) (fun j hj=>hm j (by simp[hj]))
  refine⟨m2', ?_,q2,q3⟩
  simp only[Acc.run]
  rw[hm k (by simp),q1]
  simp[Log.rd]
 |set k x c ih=>
  intro m l v m' l' h
  simp only[Acc.run] at h
  obtain⟨R,W,e,h1,h2⟩:=ih h
  refine⟨R,W++[k],by rw[e];simp[Log.wr],fun j hj=> ?_,fun m2 l2 hm=> ?_⟩
  ·simp only[List.mem_append,List.mem_singleton,not_or] at hj
   rw[h1 j hj.1,kN hj.2]
  ·obtain⟨m2',q1,q2,q3⟩:=h2 (put k x m2) (l2.wr k) (fun j hj=>by
    rw[get_put,get_put]
    split
    ·rfl
    ·exact hm j hj)
   refine⟨m2', ?_,fun j hj=> ?_,fun j hj=> ?_⟩
   ·simp only[Acc.run]
    rw[q1]
    simp[Log.wr]
   ·by_cases hw:j∈W
    ·exact q2 j hw
    ·have hjk:j=k:=by simpa[hw] using hj
     subst hjk
     rw[q3 j hw,h1 j hw,jk,jk]
   ·simp only[List.mem_append,List.mem_singleton,not_or] at hj
    rw[q3 j hj.1,kN hj.2]
 |opt o c ih=>
  intro m l v m' l' h
  cases o with
  |none=>simp[Acc.run] at h
  |some b=>
   simp only[Acc.run] at h
   obtain⟨R,W,e,h1,h2⟩:=ih _ h
   exact⟨R,W,e,h1,fun m2 l2 hm=>by simpa only[Acc.run] using h2 m2 l2 hm⟩
 |guard b c ih=>
  intro m l v m' l' h
  cases b with
  |false=>simp[Acc.run] at h
  |true=>
   simp only[Acc.run] at h
   obtain⟨R,W,e,h1,h2⟩:=ih h
   exact⟨R,W,e,h1,fun m2 l2 hm=>by simpa only[Acc.run] using h2 m2 l2 hm⟩
theorem OQ{P:Program}{tm MN:jP}{t:TypeId}{x:Operand}(h:∀i,x=.tmp i→get i tm=get i MN):ev P tm t x=ev P MN t x:=by
 cases x with
 |tmp i=>simp only[ev,Px,h i rfl]
 |_=>rfl
theorem aoa{X:Ctx}{tm MN:jP}{t:TypeId}{x:Operand}(h:∀i,x=.tmp i→get i tm=get i MN):evG X tm t x=evG X MN t x:=by
 cases x with
 |global g=>rfl
 |tmp i=>exact OQ (P:=X.P) (t:=t) h
 |const v=>rfl
 |func f=>rfl
theorem LM{P:Program}{tm MN:jP}:∀{xs:List Operand} {ts:List TypeId},(∀x∈xs,∀i,x=.tmp i→get i tm=get i MN)→ru P tm xs ts=ru P MN xs ts
 |[],_,_=>rfl
 |x::xs,ts,h=>by
  simp only[ru]
  rw[OQ (h x (by simp)),LM fun y hy=>h y (by simp[hy])]
theorem OT{P:Program}{T:TypeId}{tm MN:jP}:∀{ps:List (Nat×Operand)} {cs:List V},(∀x∈ps,∀i,x.2=.tmp i→get i tm=get i MN)→sK P T tm ps cs=sK P T MN ps cs
 |[],_,_=>rfl
 |(f,x)::ps,cs,h=>by
  simp only[sK]
  have e:∀t,ev P tm t x=ev P MN t x:=fun t=>OQ (h (f,x) (by simp))
  have r:∀cs,sK P T tm ps cs=sK P T MN ps cs:=fun cs=>OT fun y hy=>h y (by simp[hy])
  simp only[e,r]
theorem NV{P:Program}{e:TypeId}{tm MN:jP}:∀{ps:List (Nat×Operand)} {cs:List V},(∀x∈ps,∀i,x.2=.tmp i→get i tm=get i MN)→pV P e tm ps cs=pV P e MN ps cs
 |[],_,_=>rfl
 |(f,x)::ps,cs,h=>by
  simp only[pV]
  have e1:ev P tm e x=ev P MN e x:=OQ (h (f,x) (by simp))
  have r:∀cs,pV P e tm ps cs=pV P e MN ps cs:=fun cs=>NV fun y hy=>h y (by simp[hy])
  simp only[e1,r]
theorem OU{P:Program}{T:TypeId}{tm MN:jP}:∀{ps:List (Nat×Operand)} {k:Nat},(∀x∈ps,∀i,x.2=.tmp i→get i tm=get i MN)→sN P T tm k ps=sN P T MN k ps
 |[],_,_=>rfl
 |(f,x)::ps,k,h=>by
  simp only[sN]
  have e:∀t,ev P tm t x=ev P MN t x:=fun t=>OQ (h (f,x) (by simp))
  have r:∀k,sN P T tm k ps=sN P T MN k ps:=fun k=>OU fun y hy=>h y (by simp[hy])
  simp only[e,r]
theorem aob{X:Ctx}{K:jo}{fn:Nat}{tm MN:jP}{o:Oper}(h:∀x∈o.op.operands,∀i,x=.tmp i→get i tm=get i MN):vop X K fn tm o=vop X K fn MN o:=by
 obtain⟨dst,op,type,pos,after,guard⟩:=o
 have e:∀{x:Operand} (t:TypeId),x∈op.operands→ev X.P tm t x=ev X.P MN t x:=fun t hx=>OQ (h _ hx)
 have eG:∀{x:Operand} (t:TypeId),x∈op.operands→evG X tm t x=evG X MN t x:=fun t hx=>aoa (h _ hx)
 cases op<;>simp only[vop]
 case call c=>
  obtain⟨callee,args,tys⟩:=c
  have ea:∀ts,ru X.P tm args.toList ts=ru X.P MN args.toList ts:=fun ts=>LM fun x hx=>h x (by
   simp only[Op.operands,Call.operands]
   have hx':x∈args:=by simpa using hx
   cases callee<;>simp[hx'])
  cases callee with
  |value f=>
   simp only[ea,e (x:=f) 0 (by simp[Op.operands,Call.operands])]
  |invoke r m=>rfl
  |builtin b=>cases b<;>simp only[ea]
 case build t ps=>
  simp only[aeG,alU,aeF]
  have:∀cs,sK X.P t tm ps.toList cs=sK X.P t MN ps.toList cs:=fun cs=>OT fun x hx=>h x.2 (by
   simp only[Op.operands]
   simp
   exact⟨x.1,by simpa using hx⟩)
  have azV:∀e cs,pV X.P e tm ps.toList cs=pV X.P e MN ps.toList cs:=fun e cs=>NV fun x hx=>h x.2 (by
   simp only[Op.operands]
   simp
   exact⟨x.1,by simpa using hx⟩)
  simp only[this,azV]
 case buildSlice t n ps=>
  simp only[NP]
  have:∀e,sN X.P e tm 0 ps.toList=sN X.P e MN 0 ps.toList:=fun e=>OU fun x hx=>h x.2 (by
   simp only[Op.operands]
   simp
   exact⟨x.1,by simpa using hx⟩)
  simp only[this]
 case makeFunc f first caps=>
  cases f<;>try rfl
  simp only
  rw[LM (tm:=tm) (MN:=MN) (xs:=first.toList) fun x hx=>h x (by have hx':x∈_:=Array.mem_toList_iff.1 hx;simp[Op.operands,hx']),
   LM (tm:=tm) (MN:=MN) (xs:=caps.toList) fun x hx=>h x (by have hx':x∈_:=Array.mem_toList_iff.1 hx;simp[Op.operands,hx'])]
 case load t x=>rw[eG 0 (by simp[Op.operands])]
 case nilCheck x=>rw[eG type (by simp[Op.operands])]
 case indexAddr t x i=>rw[eG t (by simp[Op.operands]),e 3 (x:=i) (by simp[Op.operands])]
 case slice t x lo hi mx=>
  cases mx with
  |some _=>rfl
  |none=>
   simp only
   rw[eG t (by simp[Op.operands]),e t (x:=x) (by simp[Op.operands])]
   generalize X.Jd.trunc fn (dst.getD 0)=b
   cases lo with
   |none=>cases hi with
    |none=>cases b<;>rfl
    |some y=>cases b<;>simp only[Option.map_some,Option.map_none,e 3 (x:=y) (by simp[Op.operands])]
   |some z=>cases hi with
    |none=>cases b<;>simp only[Option.map_some,Option.map_none,e 3 (x:=z) (by simp[Op.operands])]
    |some y=>cases b<;>simp only[Option.map_some,Option.map_none,e 3 (x:=y) (by simp[Op.operands]),e 3 (x:=z) (by simp[Op.operands])]
 all_goals first
  |rfl
  |(simp only[e _ (by simp[Op.operands]:_∈Op.operands _)];done)
  |skip
 all_goals(simp only[Op.operands] at e;simp_all)
end Go.Vm
namespace Go.Vm
open Go
structure Rel(base:Nat)(U:Nat→Prop)(M0:List Nat)(w0:World)(ν:Nat→Value)(M:Mem)(nt:Nat)(w:World)(S:St)(G:GS)(a:Act):Prop where
 at_:At base U M0 w0 w S.mem G
 tm:VN G.μ S.mem (Gh U w G) S.tm a
 size:a.tmps.size=nt
 defers:a.defers=[]
 imp:EF ν M G.μ S.mem
section
variable {base:Nat} {U:Nat→Prop} {M0:List Nat} {w0 w w':World} {ν:Nat→Value} {M:Mem} {nt:Nat} {S S':St} {G G':GS} {a:Act} {X:Ctx}
theorem VU(a:Act)(dst:Option Tmp)(g:Value):(a.put dst g).tmps.size=a.tmps.size:=by cases dst<;>simp[Act.put]
theorem put_defers(a:Act)(dst:Option Tmp)(g:Value):(a.put dst g).defers=a.defers:=by cases dst<;>rfl
theorem Rel.put(R:Rel base U M0 w0 ν M nt w S G a){m':Mem}{v:V}{g:Value}{dst:Option Nat}(hx:Nx base U M0 w0 w S.mem G w' m' G')(hs:bJ G'.μ m' (Gh U w' G') v g)(hd:Jp nt dst=true):
  Rel base U M0 w0 ν M nt w' ⟨Um dst v S.tm,m'⟩ G' (a.put dst g):=by
 refine⟨hx.at_, ?_,by rw[VU,R.size],by rw[put_defers,R.defers],rC R.imp hx.mem⟩
 intro t u hu
 cases dst with
 |none=>
  simp only[Um] at hu
  obtain⟨h1,h2⟩:=R.tm t u hu
  exact⟨h1,hx.bJ h2⟩
 |some d=>
  simp only[Um] at hu
  have hdn:d<nt:=by simpa[Jp] using hd
  rw[VU]
  rw[get_put] at hu
  split at hu
  ·rename_i htd
   simp only[Option.some.injEq] at hu
   subst hu htd
   refine⟨by rw[R.size];exact hdn, ?_⟩
   have:((a.put (some t) g).tmps).getD t undef=g:=by
    simp only[Act.put,Array.getD_eq_getD_getElem?]
    rw[Array.getElem?_setIfInBounds_self_of_lt (by rw[R.size];exact hdn)]
    rfl
   rw[this]
   exact hs
  ·rename_i htd
   obtain⟨h1,h2⟩:=R.tm t u hu
   refine⟨h1, ?_⟩
   have:((a.put (some d) g).tmps).getD t undef=a.tmps.getD t undef:=by
    simp only[Act.put,Array.getD_eq_getD_getElem?]
    rw[Array.getElem?_setIfInBounds_ne (Ne.symm htd)]
   rw[this]
   exact hx.bJ h2
theorem Rel.skip(R:Rel base U M0 w0 ν M nt w S G a)(dst:Option Nat):Rel base U M0 w0 ν M nt w ⟨as3 dst S.tm,S.mem⟩ G (a.put dst Go.undef):=by
 refine⟨R.at_, ?_,by rw[VU,R.size],by rw[put_defers,R.defers],R.imp⟩
 intro t u hu
 cases dst with
 |none=>exact R.tm t u hu
 |some d=>
  simp only[as3] at hu
  rw[as9] at hu
  split at hu
  ·cases hu
  ·rename_i htd
   obtain⟨h1,h2⟩:=R.tm t u hu
   refine⟨by rw[VU];exact h1, ?_⟩
   have:((a.put (some d) Go.undef).tmps).getD t Go.undef=a.tmps.getD t Go.undef:=by
    simp only[Act.put,Array.getD_eq_getD_getElem?]
    rw[Array.getElem?_setIfInBounds_ne (Ne.symm htd)]
   rw[this]
   exact h2
theorem Rel.skip'(R:Rel base U M0 w0 ν M nt w S G a)(dst:Option Nat):Rel base U M0 w0 ν M nt w ⟨Ym nt dst S.tm,S.mem⟩ G (a.put dst Go.undef):=by
 unfold Ym
 cases hd:Jp nt dst with
 |false=>exact R.skip dst
 |true=>exact R.put R.at_.nx (by simp only[bJ,dO];exact⟨#[],rfl,rfl⟩) hd
theorem Rel.tms(R:Rel base U M0 w0 ν M nt w S G a){tm:jP}(h:∀t,get t tm=get t S.tm):Rel base U M0 w0 ν M nt w ⟨tm,S.mem⟩ G a:=
 ⟨R.at_,fun t u hu=>R.tm t u (by rw[←h t];exact hu),R.size,R.defers,R.imp⟩
theorem af9{t d:Nat}{x:V}{tm:jP}(h:Px d tm=x)(hx:x≠.undef):get t (put d x tm)=get t tm:=by
 rw[get_put]
 split
 ·rename_i e
  subst e
  unfold Px at h
  cases hg:get t tm with
  |none=>rw[hg] at h;exact absurd h.symm hx
  |some v=>rw[hg] at h;simp at h;rw[h]
 ·rfl
theorem LP{ops:Array Oper}{o:Oper}{b:Bool}{tm tm':jP}(h:zY ops tm o=some (b,tm')):∀t,get t tm'=get t tm:=by
 intro t
 unfold zY at h
 split at h
 ·simp only[Option.some.injEq,Prod.mk.injEq] at h;rw[h.2]
 ·split at h
  ·split at h
   ·split at h
    ·rename_i c he
     split at h
     all_goals
      simp only[Option.some.injEq,Prod.mk.injEq] at h
      rw[←h.2]
      exact af9 he (by simp)
    ·rename_i vs he
     split at h
     ·simp only[Option.some.injEq,Prod.mk.injEq] at h
      rw[←h.2]
      exact af9 he (by simp)
     ·cases h
    ·cases h
   ·cases h
  ·cases h
theorem aoc{ops:Array Oper}{o:Oper}{b:Bool}{tm':jP}(R:Rel base U M0 w0 ν M nt w S G a)(h:zY ops S.tm o=some (b,tm')):Region.wanted o (yielded ops a.tmps)=b:=by
 unfold zY at h
 unfold Region.wanted
 cases hg:o.guard with
 |none=>simp only[hg,Option.some.injEq,Prod.mk.injEq] at h;simpa using h.1
 |some jw=>
  obtain⟨j,want⟩:=jw
  simp only[hg] at h⊢
  cases hj:ops[j]? with
  |none=>simp[hj] at h
  |some oj=>
   simp only[hj] at h
   cases hd:oj.dst with
   |none=>simp[hd] at h
   |some d=>
    simp only[hd] at h
    unfold Px at h
    cases ht:get d S.tm with
    |none=>simp[ht] at h
    |some v=>
     simp only[ht] at h
     obtain⟨h1,h2⟩:=R.tm d v ht
     cases v with
     |d x=>
      cases x with
      |bool c=>
       simp only[bJ,ro] at h2
       have hy:yielded ops a.tmps j=some c:=by
        simp only[yielded,hj,Option.bind_some,hd]
        have:a.tmps[d]? =some (.bool c):=by
         rw[←h2,Array.getD_eq_getD_getElem?,Array.getElem?_eq_getElem h1]
         rfl
        rw[this]
       rw[hy]
       cases c<;>simp only[Option.some.injEq,Prod.mk.injEq] at h<;>obtain⟨rfl,_⟩:=h<;>cases want<;>rfl
      |_=>simp at h
     |yE vs=>
      cases vs with
      |cons _ _=>simp at h
      |nil=>
       simp only[Option.some.injEq,Prod.mk.injEq] at h
       simp only[bJ,dO] at h2
       obtain⟨arr,h3,h4⟩:=h2
       have hy:yielded ops a.tmps j=none:=by
        simp only[yielded,hj,Option.bind_some,hd]
        have:a.tmps[d]? =some (.tuple arr):=by
         rw[←h3,Array.getD_eq_getD_getElem?,Array.getElem?_eq_getElem h1]
         rfl
        rw[this]
       rw[hy,←h.1]
       rfl
     |_=>simp at h
theorem aga{K:jo}(hK:QW X K U M0 w0){fn:Nat}(hnt:DN X.P fn=nt)(R:Rel base U M0 w0 ν M nt w S G a){ops:Array Oper}{i:Nat}{lg:Log}(h:yC X K fn ops i S=some (S',lg))
  {next:Act→World→Prop} {Q:Exit→Act→World→Prop} (hn:∀w' G' a',Rel base U M0 w0 ν M nt w' S' G' a'→(Gh U w G).le (Gh U w' G')→next a' w'):wpOp X.P ops Q i next a w:=by
 unfold yC at h
 unfold wpOp
 cases ho:ops[i]? with
 |none=>simp[ho] at h
 |some o=>
  simp only[ho] at h⊢
  cases hw:zY ops S.tm o with
  |none=>simp[hw] at h
  |some bt=>
   obtain⟨b,tm⟩:=bt
   rw[aoc R hw]
   have R':=R.tms (LP hw)
   cases b with
   |false=>
    simp only[hw,Option.some.injEq,Prod.mk.injEq] at h
    obtain⟨rfl,rfl⟩:=h
    simp only[Bool.false_eq_true,if_false]
    exact hn _ _ _ (hnt ▸ R'.skip' o.dst) (View.le_refl _)
   |true=>
    simp only[hw] at h
    simp only[if_true]
    cases hv:(vop X K fn tm o).run S.mem .none with
    |none=>simp[hv] at h
    |some r=>
     obtain⟨v,m',l⟩:=r
     simp only[hv] at h
     cases hd:Jp (DN X.P fn) o.dst with
     |false=>simp[hd] at h
     |true=>
      simp only[hd,cond_true,Option.some.injEq,Prod.mk.injEq] at h
      obtain⟨rfl,rfl⟩:=h
      rw[hnt] at hd
      exact .inl (avK hK R'.at_ R'.tm hv fun g w' G' hx hs=>hn w' G' _ (R'.put hx hs hd) hx.view)
theorem UL{K:jo}(hK:QW X K U M0 w0){fn:Nat}(hnt:DN X.P fn=nt){ops:Array Oper}{Q:Exit→Act→World→Prop}{rest:List Nat}:∀{is:List Nat} {w:World} {S S':St} {G:GS} {a:Act} {L L':List (Nat×Log)}
  (_:Rel base U M0 w0 ν M nt w S G a) (_:uK X K fn ops is S L=some (S',L')) (_:∀w' G' a',Rel base U M0 w0 ν M nt w' S' G' a'→(Gh U w G).le (Gh U w' G')→wpOps X.P ops Q rest a' w'),wpOps X.P ops Q (is++rest) a w
 |[],w,S,S',G,a,L,L',R,h,hn=>by
  simp only[uK,Option.some.injEq,Prod.mk.injEq] at h
  obtain⟨rfl,rfl⟩:=h
  exact hn w G a R (View.le_refl _)
 |i::is,w,S,S',G,a,L,L',R,h,hn=>by
  rw[List.cons_append,wpOps_cons]
  simp only[uK] at h
  cases h1:yC X K fn ops i S with
  |none=>simp[h1] at h
  |some r=>
   obtain⟨S1,l1⟩:=r
   simp only[h1] at h
   exact aga hK hnt R h1 fun w1 G1 a1 R1 v1=>UL hK hnt R1 h fun w' G' a' R' v'=>hn w' G' a' R' (v1.trans' v')
theorem adO{K:jo}(hK:QW X K U M0 w0){fn:Nat}(hnt:DN X.P fn=nt){ops:Array Oper}{Q:Exit→Act→World→Prop}{is:List Nat}{w:World}{S S':St}{G:GS}{a:Act}{L L':List (Nat×Log)}
  (R:Rel base U M0 w0 ν M nt w S G a) (h:uK X K fn ops is S L=some (S',L')) (hn:∀w' G' a',Rel base U M0 w0 ν M nt w' S' G' a'→(Gh U w G).le (Gh U w' G')→Q .normal a' w'):wpOps X.P ops Q is a w:=by
 have:=UL (rest:=[]) hK hnt R h hn
 rwa [List.append_nil] at this
end
end Go.Vm
namespace Go.Vm
open Go
theorem PX{k:Nat}{c:Cell}{m:Mem}(h:sortedK ((k,c)::m)=true):sortedK m=true:=by
 cases m with
 |nil=>rfl
 |cons x m=>obtain⟨j,d⟩:=x;simp only[sortedK,Bool.and_eq_true] at h;exact h.2
theorem aa2:∀{m:Mem} {k:Nat} {c:Cell},sortedK ((k,c)::m)=true→∀j d,(j,d)∈m→k<j
 |[],_,_,_,_,_,h=>by simp at h
 |(i,e)::m,k,c,h,j,d,hm=>by
  have h':=h
  simp only[sortedK,Bool.and_eq_true] at h
  have hki:k<i:=Nat.le_of_ble_eq_true h.1
  simp only[List.mem_cons,Prod.mk.injEq] at hm
  rcases hm with⟨rfl,_⟩|hm
  ·exact hki
  ·exact Nat.lt_trans hki (aa2 (PX h') j d hm)
theorem get_mem{α:Type}{k:Nat}{x:α}:∀{l:List (Nat×α)},get k l=some x→(k,x)∈l
 |[],h=>by simp[get] at h
 |(j,y)::l,h=>by
  simp only[get] at h
  cases hb:Nat.beq k j with
  |true=>
   rw[hb] at h
   simp only[cond_true,Option.some.injEq] at h
   have:=Nat.eq_of_beq_eq_true hb
   simp[this,h]
  |false=>
   rw[hb] at h
   exact List.mem_cons_of_mem _ (get_mem h)
theorem get_none{α:Type}{k:Nat}:∀{l:List (Nat×α)},(∀x,(k,x) ∉ l)→get k l=none
 |[],_=>rfl
 |(j,y)::l,h=>by
  have hne:k≠j:=fun e=>h y (by simp[e])
  simp only[get,uN hne,cond_false]
  exact get_none fun x hx=>h x (List.mem_cons_of_mem _ hx)
def live:Cell→Bool
 | .dead=>false
 |_=>true
theorem QX{all:Mem}{R:List Nat}{k:Nat}:∀{m:Mem},sortedK m=true→∀c',get k (rW all R m)=some c'↔∃c,get k m=some c∧live c=true∧k∈R∧c'=DL all c
 |[],_,c'=>by simp[rW,get]
 |(j,c)::m,hs,c'=>by
  have ih:=QX (all:=all) (R:=R) (k:=k) (PX hs) c'
  have hlt:=aa2 hs
  by_cases hkj:k=j
  ·subst hkj
   have hnone:get k m=none:=get_none fun x hx=>Nat.lt_irrefl _ (hlt k x hx)
   have hnone':get k (rW all R m)=none:=by
    cases hg:get k (rW all R m) with
    |none=>rfl
    |some c2=>
     obtain⟨c3,h3,_⟩:=(QX (all:=all) (R:=R) (k:=k) (PX hs) c2).1 hg
     rw[hnone] at h3;cases h3
   have hget:get k ((k,c)::m)=some c:=by simp[get]
   rw[hget]
   cases c with
   |dead=>simp[rW,hnone',live]
   |box t cs=>
    cases hm:mem? k R with
    |true=>
     have:=(Dc k R).1 hm
     simp only[rW,hm,cond_true]
     rw[show∀(x:Cell) l,get k ((k,x)::l)=some x from fun x l=>by simp[get]]
     constructor
     ·intro h
      exact⟨_,rfl,rfl,this,(Option.some.inj h).symm⟩
     ·rintro⟨c,h1,_,_,rfl⟩
      cases h1
      rfl
    |false=>
     have hn:k ∉ R:=fun h=>by rw[(Dc k R).2 h] at hm;cases hm
     simp[rW,hm,hnone',hn]
   |arr fz fl ver s rows=>
    cases hm:mem? k R with
    |true=>
     have:=(Dc k R).1 hm
     simp only[rW,hm,cond_true]
     rw[show∀(x:Cell) l,get k ((k,x)::l)=some x from fun x l=>by simp[get]]
     constructor
     ·intro h
      exact⟨_,rfl,rfl,this,(Option.some.inj h).symm⟩
     ·rintro⟨c,h1,_,_,rfl⟩
      cases h1
      rfl
    |false=>
     have hn:k ∉ R:=fun h=>by rw[(Dc k R).2 h] at hm;cases hm
     simp[rW,hm,hnone',hn]
   |DJ ver s rows=>
    cases hm:mem? k R with
    |true=>
     have:=(Dc k R).1 hm
     simp only[rW,hm,cond_true]
     rw[show∀(x:Cell) l,get k ((k,x)::l)=some x from fun x l=>by simp[get]]
     constructor
     ·intro h
      exact⟨_,rfl,rfl,this,(Option.some.inj h).symm⟩
     ·rintro⟨c,h1,_,_,rfl⟩
      cases h1
      rfl
    |false=>
     have hn:k ∉ R:=fun h=>by rw[(Dc k R).2 h] at hm;cases hm
     simp[rW,hm,hnone',hn]
  ·have hget:get k ((j,c)::m)=get k m:=by simp[get,uN hkj]
   rw[hget,←ih]
   cases c with
   |dead=>simp[rW]
   |box t cs=>cases hm:mem? j R<;>simp[rW,hm,get,uN hkj]
   |arr fz fl ver s rows=>cases hm:mem? j R<;>simp[rW,hm,get,uN hkj]
   |DJ ver s rows=>cases hm:mem? j R<;>simp[rW,hm,get,uN hkj]
theorem MO:∀(as l:List Nat) (x:Nat),x∈l∨x∈as→x∈Ux as l
 |[],l,x,h=>by simpa[Ux] using h
 |a::as,l,x,h=>by
  simp only[Ux]
  cases hm:mem? a l with
  |true=>
   have:=(Dc a l).1 hm
   refine MO as l x ?_
   rcases h with h|h
   ·exact .inl h
   ·simp only[List.mem_cons] at h
    rcases h with rfl|h
    ·exact .inl this
    ·exact .inr h
  |false=>
   refine MO as (a::l) x ?_
   simp only[List.mem_cons] at h⊢
   rcases h with h|h|h
   ·exact .inl (.inr h)
   ·exact .inl (.inl h)
   ·exact .inr h
theorem adP(m:Mem):∀(n:Nat) (l:List Nat) (x:Nat),x∈l→x∈reach m n l
 |0,_,_,h=>h
 |n+1,l,x,h=>adP m n _ x (MO _ _ _ (.inl h))
theorem aeS{μ:Nat→Value}{m m2:Mem}{h:View}{R:List Nat}(hm:∀r c,get r m=some c→live c=true→r∈R→get r m2=some (DL m c)):
  ∀(v:V) (g:Value),bJ μ m h v g→(∀r,r∈refs (Uu m v)→r∈R)→bJ μ m2 h (Uu m v) g
 | .d x,g,q,_=>q
 | .nil s,g,q,_=>q
 | .own r ver,g,q,hr=>by
  simp only[bJ] at q
  simp only[Uu] at hr⊢
  cases hc:get r m with
  |none=>simp[hc] at q
  |some c=>
   rw[hc] at hr
   cases c with
   |box _ _=>simp[bJ]
   |dead=>simp[bJ]
   |arr fz fl iU s rows=>
    simp only[hc] at q
    simp only at hr⊢
    cases hb:Nat.beq ver iU with
    |false=>simp[bJ]
    |true=>
     rw[hb] at hr
     have hv:=Nat.eq_of_beq_eq_true hb
     have:=hm r _ hc rfl (hr r (by simp[refs]))
     simp only[cond_true,bJ,this,DL]
     exact⟨q.1,Nat.le_refl _,fun _=>q.2.2 hv⟩
   |DJ iU s rows=>
    simp only[hc] at q
    simp only at hr⊢
    cases hb:Nat.beq ver iU with
    |false=>simp[bJ]
    |true=>
     rw[hb] at hr
     have hv:=Nat.eq_of_beq_eq_true hb
     have:=hm r _ hc rfl (hr r (by simp[refs]))
     simp only[cond_true,bJ,this,DL]
     exact⟨q.1,Nat.le_refl _,fun _=>q.2.2 hv⟩
 | .ptr r off,g,q,hr=>by
  simp only[bJ] at q
  simp only[Uu] at hr⊢
  cases hc:get r m with
  |none=>simp[hc] at q
  |some c=>
   rw[hc] at hr
   cases c with
   |arr _ _ _ _ _=>simp[bJ]
   |dead=>simp[bJ]
   |DJ _ _ _=>simp[bJ]
   |box t cs=>
    simp only[hc] at q
    have:=hm r _ hc rfl (hr r (by simp[refs]))
    simp only[bJ,this,DL]
    exact q
 | .sS r ver i off,g,q,hr=>by
  simp only[bJ] at q
  simp only[Uu] at hr⊢
  cases hc:get r m with
  |none=>simp[hc] at q
  |some c=>
   rw[hc] at hr
   cases c with
   |box _ _=>simp[bJ]
   |dead=>simp[bJ]
   |arr fz fl iU s rows=>
    simp only[hc] at q
    simp only at hr⊢
    cases hb:Nat.beq ver iU with
    |false=>simp[bJ]
    |true=>
     rw[hb] at hr
     have hv:=Nat.eq_of_beq_eq_true hb
     have:=hm r _ hc rfl (hr r (by simp[refs]))
     simp only[cond_true,bJ,this,DL]
     exact⟨q.1,Nat.le_refl _,fun _=>q.2.2 hv⟩
   |DJ iU s rows=>
    simp only[hc] at q
    simp only at hr⊢
    cases hb:Nat.beq ver iU with
    |false=>simp[bJ]
    |true=>
     rw[hb] at hr
     have hv:=Nat.eq_of_beq_eq_true hb
     have:=hm r _ hc rfl (hr r (by simp[refs]))
     simp only[cond_true,bJ,this,DL]
     exact⟨q.1,Nat.le_refl _,fun _=>q.2.2 hv⟩
 | .sJ row off,g,q,_=>q
 | .clo f a b,g,q,hr=>by
  simp only[bJ] at q
  obtain⟨x,y,rfl,h1,h2⟩:=q
  simp only[Uu,refs] at hr
  simp only[Uu,bJ]
  exact⟨x,y,rfl,OV hm a _ h1 fun r hx=>hr r (by simp[hx]),OV hm b _ h2 fun r hx=>hr r (by simp[hx])⟩
 | .agg cs,g,q,hr=>by
  simp only[bJ] at q
  obtain⟨x,rfl,h1⟩:=q
  simp only[Uu,refs] at hr
  simp only[Uu,bJ]
  exact⟨x,rfl,OV hm cs _ h1 hr⟩
 | .yE cs,g,q,hr=>by
  simp only[bJ] at q
  obtain⟨x,rfl,h1⟩:=q
  simp only[Uu,refs] at hr
  simp only[Uu,bJ]
  exact⟨x,rfl,OV hm cs _ h1 hr⟩
 | .undef,g,q,_=>q
where
 OV {μ:Nat→Value} {m m2:Mem} {h:View} {R:List Nat} (hm:∀r c,get r m=some c→live c=true→r∈R→get r m2=some (DL m c)):
  ∀(vs:List V) (gs:List Value),dO μ m h vs gs→(∀r,r∈JQ (TG m vs)→r∈R)→dO μ m2 h (TG m vs) gs
 |[],gs,q,_=>q
 |v::vs,gs,q,hr=>by
  obtain⟨g,gs',rfl,h1,h2⟩:=oG q
  simp only[TG,JQ] at hr
  simp only[TG,dO]
  exact⟨g,gs',rfl,aeS hm v g h1 fun r hx=>hr r (by simp[hx]),OV hm vs gs' h2 fun r hx=>hr r (by simp[hx])⟩
theorem UM{m:Mem}{tm:jP}{t:Nat}{v:V}:∀{ts:List Nat},get t (Uw m tm ts)=some v→∃u,get t tm=some u∧v=Uu m u
 |[],h=>by simp[Uw,get] at h
 |i::ts,h=>by
  simp only[Uw] at h
  cases hi:get i tm with
  |none=>rw[hi] at h;exact UM h
  |some u=>
   rw[hi] at h
   simp only[get] at h
   cases hb:Nat.beq t i with
   |true=>
    have:=Nat.eq_of_beq_eq_true hb
    subst this
    rw[hb] at h
    simp only[cond_true,Option.some.injEq] at h
    exact⟨u,hi,h.symm⟩
   |false=>
    rw[hb] at h
    exact UM h
section
variable {base:Nat} {U:Nat→Prop} {M0:List Nat} {w0 w:World} {ν:Nat→Value} {M:Mem} {nt:Nat} {S S':St} {G:GS} {a:Act}
open Classical in
theorem aod(R:Rel base U M0 w0 ν M nt w S G a)(hM:∀r c,get r M=some c→Jr r=true){ts:List Nat}(h:Uy ts S=some S'):
  ∃G',Rel base U M0 w0 ν M nt w S' G' a∧(Gh U w G).le (Gh U w G'):=by
 simp only[Uy] at h
 generalize htm:Uw S.mem S.tm ts=tm at h
 generalize hRR:reach S.mem 3 (roots tm S.mem)=RR at h
 generalize hmm:rW S.mem RR S.mem=m2 at h
 cases hc:(closed RR m2 &&(azK S.mem && sortedK S.mem)) with
 |false=>simp[hc] at h
 |true=>
  simp only[hc,cond_true,Option.some.injEq] at h
  subst h
  simp only[Bool.and_eq_true] at hc
  obtain⟨hcl,hfm,hso⟩:=hc
  have hget:∀k c',get k m2=some c'↔∃c,get k S.mem=some c∧live c=true∧k∈RR∧c'=DL S.mem c:=by
   intro k c'
   rw[←hmm]
   exact QX hso c'
  have hto:∀r c,get r S.mem=some c→live c=true→r∈RR→get r m2=some (DL S.mem c):=fun r c h1 h2 h3=>(hget r _).2 ⟨c,h1,h2,h3,rfl⟩
  have hroot:∀r,r∈roots tm S.mem→r∈RR:=fun r hr=>by rw[←hRR];exact adP _ _ _ _ hr
  have hout:∀r,r ∉ G.out:=fun r=>by rw[R.at_.out];simp
  let F2:Nat→List Nat:=fun r=>if get r m2=none then[] else G.F r
  have hF:∀r b,b∈F2 r→b∈G.F r:=by
   intro r b hb
   simp only[F2] at hb
   split at hb
   ·simp at hb
   ·exact hb
  have hex:∀b,excl F2 [] b→excl G.F G.E b:=by
   rintro b (hb|⟨r,hb⟩)
   ·simp at hb
   ·exact .inr ⟨r,hF r b hb⟩
  have hv:(Gh U w G).le (Gh U w ⟨G.μ,F2,[],[]⟩):=LJ (fun _ x=>x) hex
  have hbox:∀r t cs,get r m2=some (.box t cs)→∀q,q∈JQ cs→q∈RR:=by
   intro r t cs hr q hq
   have:=List.all_eq_true.1 hcl (r,.box t cs) (get_mem hr)
   simp only[List.all_eq_true] at this
   exact(Dc q RR).1 (this q hq)
  refine⟨⟨G.μ,F2,[],[]⟩,⟨⟨⟨?_, ?_, ?_, ?_,by simp, ?_,R.at_.ok.up,R.at_.ok.bs, ?_, ?_⟩,rfl,rfl,R.at_.fr.less hex⟩, ?_,R.size,R.defers, ?_⟩,hv⟩
  ·intro r c' hr _
   have hF2:F2 r=G.F r:=by simp[F2,hr]
   obtain⟨c,h1,h2,h3,rfl⟩:=(hget r c').1 hr
   have hq:=R.at_.ok.cell r c h1 (hout r)
   show lW G.μ m2 (dR w) (Gh U w ⟨G.μ,F2,[],[]⟩) r (DL S.mem c) (F2 r)
   rw[hF2]
   cases c with
   |dead=>cases h2
   |box t cs=>
    obtain⟨b,arr,e1,e2,e3,e4⟩:=hq
    exact⟨b,arr,e1,e2,aeS.OV hto _ _ (qw (sO _ _) hv _ _ e3) (hbox r t _ hr),e4⟩
   |arr fz fl ver s rows=>
    cases fz with
    |true=>exact⟨DU hv _ _ hq.1,hq.2⟩
    |false=>exact GI hv (fun _ _=>rfl) hq
   |DJ ver s rows=>exact Xu hv (fun _ _=>rfl) hq
  ·intro r r' hne b hb hb'
   exact R.at_.ok.dj r r' hne b (hF r b hb) (hF r' b hb')
  ·intro r b hb;simp
  ·intro r
   simp only[F2]
   split
   ·simp
   ·exact R.at_.ok.nd r
  ·intro b hb
   exact R.at_.ok.lt b (hex b hb)
  ·intro r hr
   simp[F2,hr]
  ·intro r hr;simp at hr
  ·intro t v ht
   rw[←htm] at ht
   obtain⟨u,h1,rfl⟩:=UM ht
   obtain⟨h2,h3⟩:=R.tm t u h1
   refine⟨h2,aeS hto u _ (Js (sO _ _) hv _ _ h3) fun r hr=> ?_⟩
   refine hroot r (MO _ _ _ (.inr ?_))
   rw[List.mem_flatMap]
   exact⟨(t,Uu S.mem u),by rw[←htm];exact get_mem ht,hr⟩
  ·intro r c hr
   obtain⟨c',h1,h2⟩:=R.imp r c hr
   have hk:=hM r c hr
   have am5:=List.all_eq_true.1 hfm (r,c') (get_mem h1)
   have hrr:r∈RR:=hroot r (MO _ _ _ (.inl (by
    rw[List.mem_filter]
    exact⟨List.mem_map.2 ⟨(r,c'),get_mem h1,rfl⟩,hk⟩)))
   cases c' with
   |dead=>simp[hk] at am5
   |DJ _ _ _=>simp[hk] at am5
   |box t cs=>
    refine⟨_,hto r _ h1 rfl hrr, ?_⟩
    cases c<;>simp only[Gi,DL] at h2⊢<;>exact h2
   |arr fz fl ver s rows=>
    simp only[hk,cond_true] at am5
    have hv0:=Nat.eq_of_beq_eq_true am5
    subst hv0
    exact⟨_,hto r _ h1 rfl hrr,h2⟩
theorem aa3{f:Nat→Nat}:∀{ks:List Nat},nodupB (ks.map f)=true→∀a b,a∈ks→b∈ks→f a=f b→a=b
 |[],_,a,b,ha,_,_=>absurd ha List.not_mem_nil
 |k::ks,h,a,b,ha,hb,e=>by
  simp only[List.map_cons,nodupB,Bool.and_eq_true] at h
  have h1:=OE h.1
  rcases List.mem_cons.1 ha with e1|ha1<;>rcases List.mem_cons.1 hb with e2|hb1
  ·rw[e1,e2]
  ·exact absurd (by rw[←e1,e];exact List.mem_map.2 ⟨b,hb1,rfl⟩) h1
  ·exact absurd (by rw[←e2,←e];exact List.mem_map.2 ⟨a,ha1,rfl⟩) h1
  ·exact aa3 h.2 a b ha1 hb1 e
theorem aag{α:Type}{k:Nat}{x:α}{l:List (Nat×α)}(h:get k l=some x):k∈l.map (·.1):=List.mem_map.2 ⟨_,get_mem h,rfl⟩
theorem TN{L:List (Nat×Nat)}:∀{m:Mem} {k':Nat} {c':Cell},get k' (MH L m)=some c'→∃k c,get k m=some c∧ren L k=k'∧c'=ac0 L c
 |[],k',c',h=>by simp[MH,get] at h
 |(j,c0)::m,k',c',h=>by
  simp only[MH] at h
  rw[get_put] at h
  split at h
  ·rename_i e
   cases h
   exact⟨j,c0,by simp[get],e.symm,rfl⟩
  ·rename_i e
   obtain⟨k,c,h1,h2,h3⟩:=TN h
   refine⟨k,c, ?_,h2,h3⟩
   have:Nat.beq k j=false:=uN (fun q=>e (by rw[←h2,q]))
   simp only[get,this,cond_false]
   exact h1
theorem aa4{L:List (Nat×Nat)}:∀{m:Mem} (_:∀a b,a∈m.map (·.1)→b∈m.map (·.1)→ren L a=ren L b→a=b) {k:Nat} {c:Cell},get k m=some c→get (ren L k) (MH L m)=some (ac0 L c)
 |[],_,k,c,h=>by simp[get] at h
 |(j,c0)::m,hi,k,c,h=>by
  simp only[MH]
  rw[get_put]
  by_cases hk:k=j
  ·subst hk
   have:Nat.beq k k=true:=Nat.beq_refl k
   simp only[get,this,cond_true,Option.some.injEq] at h
   subst h
   rw[if_pos rfl]
  ·have hb:Nat.beq k j=false:=uN hk
   simp only[get,hb,cond_false] at h
   rw[if_neg]
   ·exact aa4 (fun a b ha hb=>hi a b (List.mem_cons_of_mem _ ha) (List.mem_cons_of_mem _ hb)) h
   ·intro e
    exact hk (hi k j (List.mem_cons_of_mem _ (aag h)) List.mem_cons_self e)
theorem adQ{L:List (Nat×Nat)}:∀{tm:jP} {t:Nat} {v:V},get t (aaA L tm)=some v→∃u,get t tm=some u∧v=Oi L u
 |[],t,v,h=>by simp[aaA,get] at h
 |(j,u)::tm,t,v,h=>by
  simp only[aaA,get] at h⊢
  cases hb:Nat.beq t j with
  |true=>
   rw[hb] at h
   simp only[cond_true,Option.some.injEq] at h
   exact⟨u,rfl,h.symm⟩
  |false=>
   rw[hb] at h
   simp only[cond_false] at h⊢
   exact adQ h
mutual
theorem am6{L:List (Nat×Nat)}{μ μ':Nat→Value}{m m':Mem}{h:View}(hm:∀k c,get k m=some c→get (ren L k) m'=some (ac0 L c)∧μ' (ren L k)=μ k):∀(v:V) (g:Value),bJ μ m h v g→bJ μ' m' h (Oi L v) g
 | .d x,g,q=>q
 | .nil s,g,q=>q
 | .own r v0,g,q=>by
  simp only[Oi,bJ] at q⊢
  refine⟨q.1, ?_⟩
  have q2:=q.2
  cases hr:get r m with
  |none=>rw[hr] at q2;exact q2.elim
  |some c=>
   rw[hr] at q2
   obtain⟨h1,h2⟩:=hm r c hr
   rw[h1]
   cases c with
   |box t cs=>exact q2.elim
   |arr fz fl ver s rows=>exact⟨q2.1,fun e=>by rw[h2];exact q2.2 e⟩
   |dead=>trivial
   |DJ ver s rows=>exact⟨q2.1,fun e=>by rw[h2];exact q2.2 e⟩
 | .ptr r off,g,q=>by
  simp only[Oi,bJ] at q⊢
  refine⟨q.1, ?_⟩
  have q2:=q.2
  cases hr:get r m with
  |none=>rw[hr] at q2;exact q2.elim
  |some c=>
   rw[hr] at q2
   obtain⟨h1,h2⟩:=hm r c hr
   rw[h1]
   cases c with
   |box t cs=>
    obtain⟨b,e1,e2⟩:=q2
    exact⟨b,by rw[h2];exact e1,e2⟩
   |arr fz fl ver s rows=>exact q2.elim
   |dead=>trivial
   |DJ _ _ _=>exact q2.elim
 | .sS r v0 i off,g,q=>by
  simp only[Oi,bJ] at q⊢
  refine⟨q.1, ?_⟩
  have q2:=q.2
  cases hr:get r m with
  |none=>rw[hr] at q2;exact q2.elim
  |some c=>
   rw[hr] at q2
   obtain⟨h1,h2⟩:=hm r c hr
   rw[h1]
   cases c with
   |box t cs=>exact q2.elim
   |arr fz fl ver s rows=>
    refine⟨q2.1,fun e=> ?_⟩
    obtain⟨b,n,cap,e1,e2⟩:=q2.2 e
    exact⟨b,n,cap,by rw[h2];exact e1,e2⟩
   |dead=>trivial
   |DJ ver s rows=>
    refine⟨q2.1,fun e=> ?_⟩
    obtain⟨b,o,n,cap,e1,e2⟩:=q2.2 e
    exact⟨b,o,n,cap,by rw[h2];exact e1,e2⟩
 | .sJ row off,g,q=>q
 | .clo f a b,g,q=>by
  simp only[Oi,bJ] at q⊢
  obtain⟨x,y,e,h1,h2⟩:=q
  exact⟨x,y,e,OW hm a _ h1,OW hm b _ h2⟩
 | .agg cs,g,q=>by
  simp only[Oi,bJ] at q⊢
  obtain⟨x,e,h1⟩:=q
  exact⟨x,e,OW hm cs _ h1⟩
 | .yE vs,g,q=>by
  simp only[Oi,bJ] at q⊢
  obtain⟨x,e,h1⟩:=q
  exact⟨x,e,OW hm vs _ h1⟩
 | .undef,g,q=>trivial
theorem OW{L:List (Nat×Nat)}{μ μ':Nat→Value}{m m':Mem}{h:View}(hm:∀k c,get k m=some c→get (ren L k) m'=some (ac0 L c)∧μ' (ren L k)=μ k):∀(vs:List V) (gs:List Value),dO μ m h vs gs→dO μ' m' h (QI L vs) gs
 |[],gs,q=>q
 |v::vs,gs,q=>by
  simp only[QI,dO] at q⊢
  obtain⟨g,gs',rfl,h1,h2⟩:=q
  exact⟨g,gs',rfl,am6 hm v g h1,OW hm vs gs' h2⟩
end
open Classical in
theorem aoe(R:Rel base U M0 w0 ν M nt w S G a)(hM:∀r c,get r M=some c→Jr r=true)(L:List (Nat×Nat)):
  ∃G',Rel base U M0 w0 ν M nt w (aeJ L S) G' a∧(Gh U w G).le (Gh U w G'):=by
 simp only[aeJ]
 cases hc:VA L (S.mem.map (·.1)) with
 |false=>exact⟨G,R,View.le_refl _⟩
 |true=>
  simp only
  simp only[VA,Bool.and_eq_true] at hc
  obtain⟨hnd,himp⟩:=hc
  have hinj:=aa3 hnd
  let inv:Nat→Nat:=fun k'=>if h:∃k,k∈S.mem.map (·.1)∧ren L k=k' then h.choose else k'
  let F2:Nat→List Nat:=fun k'=>if∃k,k∈S.mem.map (·.1)∧ren L k=k' then G.F (inv k') else[]
  have hinv:∀k,k∈S.mem.map (·.1)→inv (ren L k)=k:=by
   intro k hk
   have hex:∃j,j∈S.mem.map (·.1)∧ren L j=ren L k:=⟨k,hk,rfl⟩
   simp only[inv,dif_pos hex]
   exact hinj _ _ hex.choose_spec.1 hk hex.choose_spec.2
  have hF2:∀k,k∈S.mem.map (·.1)→F2 (ren L k)=G.F k:=by
   intro k hk
   have hex:∃j,j∈S.mem.map (·.1)∧ren L j=ren L k:=⟨k,hk,rfl⟩
   simp only[F2,if_pos hex,hinv k hk]
  have hF:∀r b,b∈F2 r→∃k,k∈S.mem.map (·.1)∧ren L k=r∧b∈G.F k:=by
   intro r b hb
   simp only[F2] at hb
   split at hb
   ·rename_i hex
    obtain⟨k,h1,rfl⟩:=hex
    rw[hinv k h1] at hb
    exact⟨k,h1,rfl,hb⟩
   ·simp at hb
  have hex:∀b,excl F2 [] b→excl G.F G.E b:=by
   rintro b (hb|⟨r,hb⟩)
   ·simp at hb
   ·obtain⟨k,_,_,h⟩:=hF r b hb
    exact .inr ⟨k,h⟩
  have hv:(Gh U w G).le (Gh U w ⟨G.μ ∘ inv,F2,[],[]⟩):=LJ (fun _ x=>x) hex
  have hm:∀k c,get k S.mem=some c→get (ren L k) (MH L S.mem)=some (ac0 L c)∧(G.μ ∘ inv) (ren L k)=G.μ k:=by
   intro k c hk
   exact⟨aa4 hinj hk,by show G.μ (inv (ren L k))=_;rw[hinv k (aag hk)]⟩
  have hout:∀r,r ∉ G.out:=fun r=>by rw[R.at_.out];simp
  refine⟨⟨G.μ ∘ inv,F2,[],[]⟩,⟨⟨⟨?_, ?_, ?_, ?_,by simp, ?_,R.at_.ok.up,R.at_.ok.bs, ?_, ?_⟩,rfl,rfl,R.at_.fr.less hex⟩, ?_,R.size,R.defers, ?_⟩,hv⟩
  ·intro r c' hr _
   obtain⟨k,c,h1,rfl,rfl⟩:=TN hr
   have hq:=R.at_.ok.cell k c h1 (hout k)
   show lW (G.μ ∘ inv) (MH L S.mem) (dR w) (Gh U w ⟨G.μ ∘ inv,F2,[],[]⟩) (ren L k) (ac0 L c) (F2 (ren L k))
   rw[hF2 k (aag h1)]
   have hmu:=(hm k c h1).2
   cases c with
   |dead=>exact hq
   |box t cs=>
    obtain⟨b,arr,e1,e2,e3,e4⟩:=hq
    exact⟨b,arr,by rw[hmu];exact e1,e2,OW hm _ _ (qw (sO _ _) hv _ _ e3),e4⟩
   |arr fz fl ver s rows=>
    cases fz with
    |true=>
     have hq':ro (Gh U w G) (.sl true s rows) (G.μ k)∧G.F k=[]:=hq
     refine⟨?_,hq'.2⟩
     rw[hmu]
     exact DU hv _ _ hq'.1
    |false=>
     have hq':Qo (dR w) (Gh U w G) fl s rows (G.μ k) (G.F k):=hq
     show Qo (dR w) (Gh U w ⟨G.μ ∘ inv,F2,[],[]⟩) fl s rows ((G.μ ∘ inv) (ren L k)) (G.F k)
     rw[hmu]
     exact GI hv (fun _ _=>rfl) hq'
   |DJ ver s rows=>
    have hq':ac1 (dR w) (Gh U w G) s rows (G.μ k) (G.F k):=hq
    show ac1 (dR w) (Gh U w ⟨G.μ ∘ inv,F2,[],[]⟩) s rows ((G.μ ∘ inv) (ren L k)) (G.F k)
    rw[hmu]
    exact Xu hv (fun _ _=>rfl) hq'
  ·intro r r' hne b hb hb'
   obtain⟨k,_,rfl,h1⟩:=hF r b hb
   obtain⟨k',_,rfl,h2⟩:=hF r' b hb'
   exact R.at_.ok.dj k k' (fun e=>hne (by rw[e])) b h1 h2
  ·intro r b hb;simp
  ·intro r
   simp only[F2]
   split
   ·exact R.at_.ok.nd _
   ·simp
  ·intro b hb
   exact R.at_.ok.lt b (hex b hb)
  ·intro r hr
   simp only[F2]
   split
   ·rename_i hq
    obtain⟨k,h1,rfl⟩:=hq
    obtain⟨⟨k2,c⟩,h2,h3⟩:=List.mem_map.1 h1
    simp only at h3
    subst h3
    cases hg:get k2 S.mem with
    |none=>rw[hinv k2 h1];exact R.at_.ok.none_ _ hg
    |some c2=>rw[(hm k2 c2 hg).1] at hr;cases hr
   ·rfl
  ·intro r hr;simp at hr
  ·intro t v ht
   obtain⟨u,h1,rfl⟩:=adQ ht
   obtain⟨h2,h3⟩:=R.tm t u h1
   exact⟨h2,am6 hm u _ (Js (sO _ _) hv _ _ h3)⟩
  ·intro r c hr
   obtain⟨c',h1,h2⟩:=R.imp r c hr
   have hk:=hM r c hr
   have hir:=List.all_eq_true.1 himp r (aag h1)
   simp only[hk,cond_true] at hir
   have her:=Nat.eq_of_beq_eq_true hir
   obtain⟨h3,h4⟩:=hm r c' h1
   rw[her] at h3 h4
   refine⟨_,h3, ?_⟩
   cases c<;>cases c'<;>simp only[Gi,ac0] at h2⊢<;>first
    |exact⟨h2.1,h4.trans h2.2⟩
    |exact⟨h2.1,h2.2.1,fun e=>⟨h4.trans (h2.2.2 e).1,(h2.2.2 e).2⟩⟩
    |exact⟨h2.1,fun e=>⟨h4.trans (h2.2 e).1,(h2.2 e).2⟩⟩
    |trivial
    |exact h2
theorem apG(R:Rel base U M0 w0 ν M nt w S G a)(hM:∀r c,get r M=some c→Jr r=true):
  ∃G',Rel base U M0 w0 ν M nt w (canon S) G' a∧(Gh U w G).le (Gh U w G'):=by
 unfold canon
 cases as5 S.tm S.mem with
 |nil=>exact⟨G,R,View.le_refl _⟩
 |cons k o=>exact aoe R hM _
theorem apH(R:Rel base U M0 w0 ν M nt w S G a)(hM:∀r c,get r M=some c→Jr r=true){ts:List Nat}(h:prune ts S=some S'):
  ∃G',Rel base U M0 w0 ν M nt w S' G' a∧(Gh U w G).le (Gh U w G'):=by
 simp only[prune] at h
 cases hp:Uy ts S with
 |none=>simp[hp] at h
 |some S1=>
  simp only[hp,Option.some.injEq] at h
  subst h
  obtain⟨G1,R1,v1⟩:=aod R hM hp
  obtain⟨G2,R2,v2⟩:=apG R1 hM
  exact⟨G2,R2,v1.trans' v2⟩
end
end Go.Vm
namespace Go.Vm
open Go
theorem OX{α:Type}{f:Nat→Option α}{x:α}(h:lim f=some x):∃n,f n=some x:=by
 unfold lim at h
 split at h
 ·rename_i hx
  have:=Classical.choose_spec hx
  obtain⟨n,hn⟩:=this
  simp only[Option.some.injEq] at h
  exact⟨n,by rw[hn,h]⟩
 ·cases h
def avL:Ex→Exit
 | .normal=> .normal
 | .exit id=> .exit id
 | .ret=> .ret
section
variable {base:Nat} {U:Nat→Prop} {M0:List Nat} {w0:World} {ν:Nat→Value} {M:Mem} {nt:Nat} {X:Ctx} {K:jo} {fn:Nat}
def auT(base:Nat)(U:Nat→Prop)(M0:List Nat)(w0:World)(ν:Nat→Value)(M:Mem)(nt:Nat)(X:Ctx)(K:jo)(fn:Nat):Prop:=
 ∀(id:Nat) (ops:Array Oper) (draw:Bool) (w:World) (S S':St) (G:GS) (a:Act) (Q:Exit→Act→World→Prop),Rel base U M0 w0 ν M nt w S G a→region X K fn id ops draw S=some S'→
  (∀w' G' a',Rel base U M0 w0 ν M nt w' S' G' a'→(Gh U w G).le (Gh U w' G')→Q .normal a' w')→(Code.region id ops draw).wp X.P Q a w
theorem apI(hR:auT base U M0 w0 ν M nt X K fn)(c:Code):∀{w:World} {S S':St} {ex:Ex} {G:GS} {a:Act} {Q:Exit→Act→World→Prop},Rel base U M0 w0 ν M nt w S G a→den X K fn c S=some (ex,S')→
  (∀w' G' a',Rel base U M0 w0 ν M nt w' S' G' a'→(Gh U w G).le (Gh U w' G')→Q (avL ex) a' w')→c.wp X.P Q a w:=by
 induction c with
 |skip=>
  intro w S S' ex G a Q R h hn
  simp only[den,Option.some.injEq,Prod.mk.injEq] at h
  obtain⟨rfl,rfl⟩:=h
  exact Go.wp_skip (hn _ _ _ R (View.le_refl _))
 |region id ops draw=>
  intro w S S' ex G a Q R h hn
  simp only[den] at h
  cases hr:region X K fn id ops draw S with
  |none=>simp[hr] at h
  |some S1=>
   simp only[hr,Option.some.injEq,Prod.mk.injEq] at h
   obtain⟨rfl,rfl⟩:=h
   exact hR id ops draw w S S1 G a Q R hr hn
 |seq x y ihx ihy=>
  intro w S S' ex G a Q R h hn
  simp only[den] at h
  refine wp_seq ?_
  cases hx:den X K fn x S with
  |none=>simp[hx] at h
  |some r=>
   obtain⟨e1,S1⟩:=r
   rw[hx] at h
   cases e1 with
   |normal=>
    simp only at h
    exact ihx R hx fun w1 G1 a1 R1 v1=>ihy R1 h fun w' G' a' R' v'=>hn w' G' a' R' (v1.trans' v')
   |exit id=>
    simp only[Option.some.injEq,Prod.mk.injEq] at h
    obtain⟨rfl,rfl⟩:=h
    exact ihx R hx fun w1 G1 a1 R1 v1=>hn w1 G1 a1 R1 v1
   |ret=>
    simp only[Option.some.injEq,Prod.mk.injEq] at h
    obtain⟨rfl,rfl⟩:=h
    exact ihx R hx fun w1 G1 a1 R1 v1=>hn w1 G1 a1 R1 v1
 |cond c x y ihx ihy=>
  intro w S S' ex G a Q R h hn
  simp only[den] at h
  have hc:∀b,TI X.P S.tm c=some b→a.eval c=.bool b:=by
   intro b hb
   have:=OI (P:=X.P) R.tm 0 c
   have he:ev X.P S.tm 0 c=.d (.bool b):=by
    unfold TI at hb
    revert hb
    generalize ev X.P S.tm 0 c=v
    intro hb
    cases v with
    |d x=>
     cases x with
     |bool b'=>exact congrArg (fun q=>V.d (.bool q)) (Option.some.inj hb)
     |_=>cases hb
    |_=>cases hb
   rw[he] at this
   simpa[bJ,ro] using this
  cases hb:TI X.P S.tm c with
  |none=>simp[hb] at h
  |some b=>
   rw[hb] at h
   cases b with
   |true=>exact wp_cond (hc _ hb) (ihx R h hn)
   |false=>exact wp_cond (hc _ hb) (ihy R h hn)
 |block id c ih=>
  intro w S S' ex G a Q R h hn
  simp only[den] at h
  refine wp_block ?_
  cases hx:den X K fn c S with
  |none=>simp[hx] at h
  |some r=>
   obtain⟨e1,S1⟩:=r
   rw[hx] at h
   cases e1 with
   |normal=>
    simp only[Option.some.injEq,Prod.mk.injEq] at h
    obtain⟨rfl,rfl⟩:=h
    exact ih R hx fun w1 G1 a1 R1 v1=>hn w1 G1 a1 R1 v1
   |ret=>
    simp only[Option.some.injEq,Prod.mk.injEq] at h
    obtain⟨rfl,rfl⟩:=h
    exact ih R hx fun w1 G1 a1 R1 v1=>hn w1 G1 a1 R1 v1
   |exit j=>
    refine ih R hx fun w1 G1 a1 R1 v1=> ?_
    simp only[avL,Exit.inBlock]
    by_cases hj:j=id
    ·subst hj
     simp only[Nat.beq_refl,cond_true,Option.some.injEq,Prod.mk.injEq] at h
     obtain⟨rfl,rfl⟩:=h
     simp only[if_true]
     exact hn w1 G1 a1 R1 v1
    ·dsimp only at h
     rw[uN hj] at h
     simp only[cond_false,Option.some.injEq,Prod.mk.injEq] at h
     obtain⟨rfl,rfl⟩:=h
     simp only[hj,if_false]
     exact hn w1 G1 a1 R1 v1
 |loop c ih=>
  intro w S S' ex G a Q R h hn
  simp only[den,NQ] at h
  have hl:=OX h
  clear h
  obtain⟨n,h⟩:=hl
  refine wp_loop_rounds n ?_
  induction n generalizing w S G a with
  |zero=>simp[iter] at h
  |succ n ihn=>
   simp only[iter] at h
   rw[rounds_succ]
   cases hx:den X K fn c S with
   |none=>simp[hx] at h
   |some r=>
    obtain⟨e1,S1⟩:=r
    rw[hx] at h
    cases e1 with
    |normal=>exact ih R hx fun w1 G1 a1 R1 v1=>ihn R1 (fun w' G' a' R' v'=>hn w' G' a' R' (v1.trans' v')) h
    |exit id=>
     simp only[Option.some.injEq,Prod.mk.injEq] at h
     obtain⟨rfl,rfl⟩:=h
     exact ih R hx fun w1 G1 a1 R1 v1=>hn w1 G1 a1 R1 v1
    |ret=>
     simp only[Option.some.injEq,Prod.mk.injEq] at h
     obtain⟨rfl,rfl⟩:=h
     exact ih R hx fun w1 G1 a1 R1 v1=>hn w1 G1 a1 R1 v1
 |exit id=>
  intro w S S' ex G a Q R h hn
  simp only[den,Option.some.injEq,Prod.mk.injEq] at h
  obtain⟨rfl,rfl⟩:=h
  exact wp_exit (hn _ _ _ R (View.le_refl _))
 |ret=>
  intro w S S' ex G a Q R h hn
  simp only[den,Option.some.injEq,Prod.mk.injEq] at h
  obtain⟨rfl,rfl⟩:=h
  exact wp_ret (hn _ _ _ R (View.le_refl _))
 |_=>
  intro w S S' ex G a Q R h hn
  simp[den] at h
end
end Go.Vm
namespace Go.Vm
open Go
structure Eqv(S T:St):Prop where
 tm:∀t,get t S.tm=get t T.tm
 mem:∀k,get k S.mem=get k T.mem
theorem Eqv.refl(S:St):Eqv S S:=⟨fun _=>rfl,fun _=>rfl⟩
theorem Eqv.symm{S T:St}(h:Eqv S T):Eqv T S:=⟨fun t=>(h.tm t).symm,fun k=>(h.mem k).symm⟩
theorem Eqv.trans{S T V:St}(h:Eqv S T)(k:Eqv T V):Eqv S V:=⟨fun t=>(h.tm t).trans (k.tm t),fun j=>(h.mem j).trans (k.mem j)⟩
theorem TP{ops:Array Oper}{o:Oper}{tm MN tm':jP}{b:Bool}(h:∀t,t∈o.looksAt ops→get t MN=get t tm)(hw:zY ops tm o=some (b,tm')):∃aKp,zY ops MN o=some (b,aKp):=by
 unfold zY at hw⊢
 cases hg:o.guard with
 |none=>simp only[hg,Option.some.injEq,Prod.mk.injEq] at hw;exact⟨MN,by simp[hw.1]⟩
 |some jw=>
  obtain⟨j,want⟩:=jw
  simp only[hg] at hw⊢
  cases hj:ops[j]? with
  |none=>simp[hj] at hw
  |some oj=>
   simp only[hj] at hw⊢
   cases hd:oj.dst with
   |none=>simp[hd] at hw
   |some d=>
    simp only[hd,Px] at hw⊢
    rw[h d (by simp[Oper.looksAt,hg,hj,hd])]
    split at hw
    ·split at hw
     all_goals
      simp only[Option.some.injEq,Prod.mk.injEq] at hw
      exact⟨_,congrArg (fun x=>some (x,_)) hw.1⟩
    ·split at hw
     ·simp only[Option.some.injEq,Prod.mk.injEq] at hw
      exact⟨_,congrArg (fun x=>some (x,_)) hw.1⟩
     ·cases hw
    ·cases hw
section
variable {X:Ctx} {K:jo} {fn:Nat} {ops:Array Oper}
theorem QY{i:Nat}{o:Oper}{S S':St}{lg:Log}(ho:ops[i]? =some o)(h:yC X K fn ops i S=some (S',lg)):
  (∀k,k ∉ lg.w→get k S'.mem=get k S.mem)∧(∀t,o.dst≠some t→get t S'.tm=get t S.tm)∧
  ∀T:St,(∀t,t∈o.looksAt ops→get t T.tm=get t S.tm)→(∀k,k∈lg.r→get k T.mem=get k S.mem)→
   ∃T',yC X K fn ops i T=some (T',lg)∧(∀k,k∈lg.w→get k T'.mem=get k S'.mem)∧(∀k,k ∉ lg.w→get k T'.mem=get k T.mem)∧
    (∀t,o.dst=some t→get t T'.tm=get t S'.tm)∧(∀t,o.dst≠some t→get t T'.tm=get t T.tm):=by
 unfold yC at h
 simp only[ho] at h
 have hdel:∀(tm:jP) t,o.dst≠some t→get t (Ym (DN X.P fn) o.dst tm)=get t tm:=by
  intro tm t ht
  unfold Ym
  cases Jp (DN X.P fn) o.dst<;>cases hd:o.dst with
  |none=>rfl
  |some d=>first|exact JR (fun e=>ht (by rw[hd,e])) tm|exact kN (fun e=>ht (by rw[hd,e])) _ tm
 have hput:∀(tm:jP) v t,o.dst≠some t→get t (Um o.dst v tm)=get t tm:=by
  intro tm v t ht
  cases hd:o.dst with
  |none=>rfl
  |some d=>exact kN (fun e=>ht (by rw[hd,e])) v tm
 cases hw:zY ops S.tm o with
 |none=>simp[hw] at h
 |some bt=>
  obtain⟨b,tm⟩:=bt
  have hsame:=LP hw
  cases b with
  |false=>
   simp only[hw,Option.some.injEq,Prod.mk.injEq] at h
   obtain⟨rfl,rfl⟩:=h
   refine⟨fun _ _=>rfl,fun t ht=>by rw[hdel tm t ht,hsame t],fun T ht hk=> ?_⟩
   obtain⟨MN,hw2⟩:=TP ht hw
   have aeT:=LP hw2
   refine⟨⟨Ym (DN X.P fn) o.dst MN,T.mem⟩, ?_,fun k hk=>by simp[Log.none] at hk,fun _ _=>rfl, ?_,fun t ht=>by rw[hdel MN t ht,aeT t]⟩
   ·unfold yC
    simp only[ho,hw2]
   ·intro t htd
    rw[htd]
    simp only[Ym,as3,Um]
    cases Jp (DN X.P fn) (some t) with
    |false=>simp only[cond_false];rw[Hg,Hg]
    |true=>simp only[cond_true];rw[jk,jk]
  |true=>
   simp only[hw] at h
   cases hv:(vop X K fn tm o).run S.mem .none with
   |none=>simp[hv] at h
   |some r=>
    obtain⟨v,m',l⟩:=r
    simp only[hv] at h
    cases hd:Jp (DN X.P fn) o.dst with
    |false=>simp[hd] at h
    |true=>
     simp only[hd,cond_true,Option.some.injEq,Prod.mk.injEq] at h
     obtain⟨rfl,rfl⟩:=h
     obtain⟨R,W,e,h1,h2⟩:=an9 _ hv
     simp only[Log.none,List.append_nil] at e
     subst e
     refine⟨h1,fun t ht=>by rw[hput tm v t ht,hsame t],fun T ht hk=> ?_⟩
     obtain⟨m2,q1,q2,q3⟩:=h2 T.mem .none hk
     obtain⟨MN,hw2⟩:=TP ht hw
     have aeT:=LP hw2
     refine⟨⟨Um o.dst v MN,m2⟩, ?_,q2,q3, ?_,fun t ht=>by rw[hput MN v t ht,aeT t]⟩
     ·unfold yC
      have hc:vop X K fn MN o=vop X K fn tm o:=aob fun x hx i hi=>by
       rw[aeT,hsame]
       exact ht i (by
        subst hi
        exact List.mem_append_left _ (List.mem_filterMap.2 ⟨.tmp i,by simpa using hx,rfl⟩))
      simp only[ho,hw2,hc,q1,hd,cond_true]
      simp[Log.none]
     ·intro t htd
      rw[htd]
      simp only[Um]
      rw[jk,jk]
theorem XC{a b:List Nat}(h:as7 a b=true):∀k,k∈a→k ∉ b:=fun k hk=>OE (List.all_eq_true.1 h k hk)
structure agb(ops:Array Oper)(i j:Nat)(li lj:Log):Prop where
 ex:∃a b,ops[i]? =some a∧ops[j]? =some b∧(∀d,a.dst=some d→d ∉ b.looksAt ops)∧(∀d,a.dst=some d→b.dst≠some d)∧(∀d,b.dst=some d→d ∉ a.looksAt ops)
 wr:∀k,k∈li.w→k ∉ lj.r
 ww:∀k,k∈li.w→k ∉ lj.w
 rw:∀k,k∈li.r→k ∉ lj.w
theorem swap{i j:Nat}{li lj:Log}{S S1 S2:St}(hI:agb ops i j li lj)(h1:yC X K fn ops i S=some (S1,li))(h2:yC X K fn ops j S1=some (S2,lj)):
  ∃T1 T2,yC X K fn ops j S=some (T1,lj)∧yC X K fn ops i T1=some (T2,li)∧Eqv S2 T2:=by
 obtain⟨a,b,ha,hb,i1,i2,i3⟩:=hI.ex
 obtain⟨a1,a2,a3⟩:=QY ha h1
 obtain⟨b1,b2,b3⟩:=QY hb h2
 obtain⟨T1,c1,c2,c3,c4,c5⟩:=b3 S (fun t ht=>(a2 t (fun e=>i1 t e ht)).symm) (fun k hk=>(a1 k (fun hw=>hI.wr k hw hk)).symm)
 obtain⟨T2,d1,d2,d3,d4,d5⟩:=a3 T1 (fun t ht=>c5 t (fun e=>i3 t e ht)) (fun k hk=>c3 k (hI.rw k hk))
 refine⟨T1,T2,c1,d1,fun t=> ?_,fun k=> ?_⟩
 ·by_cases hta:a.dst=some t
  ·rw[b2 t (fun e=>i2 t hta e),d4 t hta]
  ·rw[d5 t hta]
   by_cases htb:b.dst=some t
   ·rw[c4 t htb]
   ·rw[c5 t htb,b2 t htb,a2 t hta]
 ·by_cases hka:k∈li.w
  ·rw[b1 k (hI.ww k hka),d2 k hka]
  ·rw[d3 k hka]
   by_cases hkb:k∈lj.w
   ·rw[c2 k hkb]
   ·rw[c3 k hkb,b1 k hkb,a1 k hka]
def Tr(X:Ctx)(K:jo)(fn:Nat)(ops:Array Oper):List (Nat×Log)→St→St→Prop
 |[],S,S'=>S=S'
 |(i,l)::is,S,S'=>∃S1,yC X K fn ops i S=some (S1,l)∧Tr X K fn ops is S1 S'
theorem aa5{i:Nat}{S S':St}{l:Log}(h:yC X K fn ops i S=some (S',l)):∃o,ops[i]? =some o:=by
 cases ho:ops[i]? with
 |some o=>exact⟨o,rfl⟩
 |none=>simp[yC,ho] at h
theorem aof{i:Nat}{S S1 T:St}{l:Log}(h:yC X K fn ops i S=some (S1,l))(hE:Eqv S T):∃T1,yC X K fn ops i T=some (T1,l)∧Eqv S1 T1:=by
 obtain⟨o,ho⟩:=aa5 h
 obtain⟨a1,a2,a3⟩:=QY ho h
 obtain⟨T1,c1,c2,c3,c4,c5⟩:=a3 T (fun t _=>(hE.tm t).symm) (fun k _=>(hE.mem k).symm)
 refine⟨T1,c1,fun t=> ?_,fun k=> ?_⟩
 ·by_cases ht:o.dst=some t
  ·rw[c4 t ht]
  ·rw[c5 t ht,a2 t ht,hE.tm t]
 ·by_cases hk:k∈l.w
  ·rw[c2 k hk]
  ·rw[c3 k hk,a1 k hk,hE.mem k]
theorem Tr.eqv:∀{is:List (Nat×Log)} {S S' T:St},Tr X K fn ops is S S'→Eqv S T→∃T',Tr X K fn ops is T T'∧Eqv S' T'
 |[],S,S',T,h,hE=>⟨T,rfl,by cases h;exact hE⟩
 |(i,l)::is,S,S',T,⟨S1,h1,h2⟩,hE=>by
  obtain⟨T1,c1,e1⟩:=aof h1 hE
  obtain⟨T',c2,e2⟩:=Tr.eqv h2 e1
  exact⟨T',⟨T1,c1,c2⟩,e2⟩
theorem Tr.front{i:Nat}{l:Log}{post:List (Nat×Log)}:∀{pre:List (Nat×Log)} {S S':St},Tr X K fn ops (pre++(i,l)::post) S S'→(∀x,x∈pre→agb ops x.1 i x.2 l)→
  ∃S'',Tr X K fn ops ((i,l)::(pre++post)) S S''∧Eqv S' S''
 |[],S,S',h,_=>⟨S',h,Eqv.refl _⟩
 |(j,lj)::pre,S,S',⟨S1,h1,h2⟩,hI=>by
  obtain⟨T',⟨T1,t1,t2⟩,e1⟩:=Tr.front h2 (fun x hx=>hI x (by simp[hx]))
  obtain⟨V1,V2,v1,v2,ev⟩:=swap (hI (j,lj) (by simp)) h1 t1
  obtain⟨V',w1,e2⟩:=Tr.eqv t2 ev
  exact⟨V',⟨V1,v1,V2,v2,w1⟩,e1.trans e2⟩
end
end Go.Vm
namespace Go.Vm
open Go
def Qj(acc:Array Nat)(o:Oper):Array Nat:=acc.push (o.after.foldl (fun s e=>if Region.binds .any e then s|||2 ^ e.on|||acc.getD e.on 0 else s) 0)
theorem agc(look:Nat→Nat)(j:Nat):∀(es:List Edge) (s:Nat),(es.foldl (fun s e=>if Region.binds .any e then s|||2 ^ e.on|||look e.on else s) s).testBit j=true→
  s.testBit j=true∨∃e,e∈es∧Region.binds .any e=true∧(j=e.on∨(look e.on).testBit j=true)
 |[],s,h=> .inl h
 |e::es,s,h=>by
  simp only[List.foldl_cons] at h
  rcases agc look j es _ h with h|⟨e',h1,h2⟩
  ·cases hb:Region.binds .any e with
   |false=>simp only[hb,Bool.false_eq_true,if_false] at h;exact .inl h
   |true=>
    simp only[hb,if_true,Nat.testBit_or,Bool.or_eq_true] at h
    rcases h with(h|h)|h
    ·exact .inl h
    ·rw[Nat.testBit_two_pow] at h
     exact .inr ⟨e,by simp,hb,.inl (by simpa using(of_decide_eq_true h).symm)⟩
    ·exact .inr ⟨e,by simp,hb,.inr h⟩
  ·exact .inr ⟨e',by simp[h1],h2⟩
theorem azW(l:List Oper):∀(acc:Array Nat),(l.foldl Qj acc).size=acc.size+l.length∧(∀i,i<acc.size→(l.foldl Qj acc).getD i 0=acc.getD i 0)∧
  ∀k j,((l.foldl Qj acc).getD (acc.size+k) 0).testBit j=true→∃o e,l[k]? =some o∧e∈o.after∧Region.binds .any e=true∧(j=e.on∨(e.on<acc.size+k∧((l.foldl Qj acc).getD e.on 0).testBit j=true)):=by
 induction l with
 |nil=>intro acc;refine⟨by simp,fun i _=>rfl,fun k j h=> ?_⟩;rw[List.foldl_nil,Array.getD,dif_neg (by omega)] at h;simp at h
 |cons o l ih=>
  intro acc
  obtain⟨s1,s2,s3⟩:=ih (Qj acc o)
  have hsz:(Qj acc o).size=acc.size+1:=by simp[Qj]
  rw[hsz] at s1 s2 s3
  have hold:∀i,i<acc.size→(Qj acc o).getD i 0=acc.getD i 0:=by
   intro i hi
   simp only[Qj,Array.getD_eq_getD_getElem?,Array.getElem?_push]
   rw[if_neg (by omega)]
  refine⟨by rw[List.foldl_cons,s1,List.length_cons];omega,fun i hi=>by rw[List.foldl_cons,s2 i (by omega),hold i hi],fun k j h=> ?_⟩
  rw[List.foldl_cons] at h⊢
  cases k with
  |zero=>
   rw[Nat.add_zero,s2 _ (by omega)] at h
   have hv:(Qj acc o).getD acc.size 0=o.after.foldl (fun s e=>if Region.binds .any e then s|||2 ^ e.on|||acc.getD e.on 0 else s) 0:=by
    simp[Qj,Array.getD_eq_getD_getElem?]
   rw[hv,←Array.foldl_toList] at h
   rcases agc (fun i=>acc.getD i 0) j _ 0 h with h|⟨e,h1,h2,h3⟩
   ·simp at h
   ·refine⟨o,e,rfl,by simpa using h1,h2, ?_⟩
    rcases h3 with h3|h3
    ·exact .inl h3
    ·have hlt:e.on<acc.size:=by
      rcases Nat.lt_or_ge e.on acc.size with h'|h'
      ·exact h'
      ·simp[Array.getD,Nat.not_lt.2 h'] at h3
     refine .inr ⟨by omega, ?_⟩
     rw[s2 _ (by omega),hold _ hlt]
     exact h3
  |succ k=>
   obtain⟨o',e,q1,q2,q3,q4⟩:=s3 k j (by rwa [show acc.size+(k+1)=acc.size+1+k by omega] at h)
   exact⟨o',e,by simpa using q1,q2,q3,q4.imp id fun⟨x,y⟩=>⟨by omega,y⟩⟩
theorem aa6{ops:Array Oper}{i j:Nat}(h:ordered (Region.before ops) i j=true):∃o e,ops[i]? =some o∧e∈o.after∧Region.binds .any e=true∧(j=e.on∨(e.on<i∧ordered (Region.before ops) e.on j=true)):=by
 have he:Region.before ops=ops.toList.foldl Qj #[]:=by
  unfold Region.before
  rw[←Array.foldl_toList]
  rfl
 unfold ordered at h⊢
 rw[he] at h⊢
 obtain⟨o,e,h1,h2,h3,h4⟩:=(azW ops.toList #[]).2.2 i j (by simpa using h)
 exact⟨o,e,by simpa using h1,h2,h3,by simpa using h4⟩
end Go.Vm
namespace Go.Vm
open Go
section
variable {base:Nat} {U:Nat→Prop} {M0:List Nat} {w0 w:World} {ν:Nat→Value} {M:Mem} {nt:Nat} {S T:St} {G:GS} {a:Act} {X:Ctx} {K:jo} {fn:Nat} {ops:Array Oper}
theorem XD(h:Eqv S T)(μ:Nat→Value):EF μ S.mem μ T.mem:=fun r c hc=>⟨c,by rw[←h.mem r];exact hc,Yo μ r c⟩
theorem Rel.eqv(R:Rel base U M0 w0 ν M nt w S G a)(h:Eqv S T):Rel base U M0 w0 ν M nt w T G a:=by
 have ok:=R.at_.ok
 refine⟨⟨⟨?_,ok.dj,ok.djE,ok.nd,ok.ndE,ok.lt,ok.up,ok.bs, ?_,ok.out_⟩,R.at_.E,R.at_.out,R.at_.fr⟩, ?_,R.size,R.defers,rC R.imp (XD h _)⟩
 ·intro r c hc ho
  exact Hf (XD h _) (View.le_refl _) rfl (fun _ _=>rfl) (ok.cell r c (by rw[h.mem r];exact hc) ho)
 ·intro r hr
  exact ok.none_ r (by rw[h.mem r];exact hr)
 ·intro t v hv
  obtain⟨h1,h2⟩:=R.tm t v (by rw[h.tm t];exact hv)
  exact⟨h1,Js (XD h _) (View.le_refl _) _ _ h2⟩
def Cl(ops:Array Oper)(listed:Array Bool):Prop:=∀k,listed.getD k false=true→∀o,ops[k]? =some o→∀e,e∈o.after→Region.binds .any e=true→listed.getD e.on false=true
theorem Cl.path{listed:Array Bool}(h:Cl ops listed):∀(k j:Nat),listed.getD k false=true→ordered (Region.before ops) k j=true→listed.getD j false=true:=by
 intro k
 induction k using Nat.strongRecOn with
 |_ k ih=>
  intro j hk ho
  obtain⟨o,e,h1,h2,h3,h4⟩:=aa6 ho
  have he:=h k hk o h1 e h2 h3
  rcases h4 with rfl|⟨h5,h6⟩
  ·exact he
  ·exact ih e.on h5 j he h6
def Ok(ops:Array Oper):List (Nat×Log)→Prop:=List.Pairwise fun p q=>ordered (Region.before ops) q.1 p.1=true∨agb ops p.1 q.1 p.2 q.2
theorem YK:∀{L:List (Nat×Log)},QJ ops (Region.before ops) L=true→L.Pairwise fun q p=>ordered (Region.before ops) q.1 p.1=true∨agb ops p.1 q.1 p.2 q.2
 |[],_=>List.Pairwise.nil
 |(i,l)::L,h=>by
  simp only[QJ,Bool.and_eq_true] at h
  refine List.Pairwise.cons ?_ (YK h.2)
  rintro⟨j,l'⟩ hj
  have:=List.all_eq_true.1 h.1 (j,l') hj
  simp only[Bool.or_eq_true,Bool.and_eq_true] at this
  rcases this with h1|⟨h1,h2⟩
  ·exact .inl h1
  ·right
   cases ha:ops[i]? with
   |none=>simp[ha] at h2
   |some a=>
    cases hb:ops[j]? with
    |none=>simp[ha,hb] at h2
    |some b=>
     simp only[ha,hb] at h2
     obtain⟨p1,p2,p3⟩:=Oper.apart_spec h2
     simp only[Log.apart,Bool.and_eq_true] at h1
     refine⟨⟨b,a,hb,ha,p3,fun d hd he=>p2 d he hd,p1⟩,fun k hk hr=>XC h1.2 k hr hk,fun k hk hr=>XC h1.1.2 k hr hk,fun k hk hr=>XC h1.1.1 k hr hk⟩
end
end Go.Vm
namespace Go.Vm
open Go
theorem atm{H:Heap}{h:View}{x:D}{v:Value}{N:List Nat}(hf:x.flat=true)(q:ow H h x v N):N=[]∧ro h x v:=by
 cases x with
 |sl o s rows=>simp[D.flat] at hf
 |_=>simp only[ow] at q;exact⟨q.2,by simp only[ro];exact q.1⟩
theorem aa7{H:Heap}{h:View}:∀{r:Row} {cs:List Value} {N:List Nat},r.all D.flat=true→iI H h r cs N→N=[]∧jc h r cs
 |[],cs,N,_,q=>by simp only[iI] at q;exact⟨q,trivial⟩
 |x::r,cs,N,hf,q=>by
  simp only[iI] at q
  obtain⟨v,cs',N1,N2,rfl,rfl,q1,q2⟩:=q
  simp only[List.all_cons,Bool.and_eq_true] at hf
  obtain⟨rfl,h1⟩:=atm hf.1 q1
  obtain⟨rfl,h2⟩:=aa7 hf.2 q2
  exact⟨rfl,v,cs',rfl,h1,h2⟩
theorem YL{H:Heap}{h:View}{s:Nat}:∀{rs:List Row} {cs:List Value} {N:List Nat},aB rs=true→fO H h s rs cs N→N=[]∧fQ h s rs cs
 |[],cs,N,_,q=>by simp only[fO] at q;exact⟨q,trivial⟩
 |r::rs,cs,N,hf,q=>by
  simp only[fO] at q
  obtain⟨hl,N1,N2,rfl,q1,q2⟩:=q
  simp only[aB,List.all_cons,Bool.and_eq_true] at hf
  obtain⟨rfl,h1⟩:=aa7 hf.1 q1
  obtain⟨rfl,h2⟩:=YL (rs:=rs) hf.2 q2
  exact⟨rfl,hl,h1,h2⟩
theorem apJ{H:Heap}{h:View}{fl:Bool}{s:Nat}{rows:List Row}{v:Value}{N:List Nat}(ho:TF fl rows=true)(q:ow H h (.sl true s rows) v N):Qo H h fl s rows v N:=by
 cases fl with
 |false=>exact amU q
 |true=>
  simp only[ow] at q
  rcases q with q|⟨b,cap,cs,t,N',h1,h2,h3,h4,h5,rfl⟩
  ·exact .inl q
  ·obtain⟨rfl,h6⟩:=YL (by simpa[TF] using ho) h5
   exact .inr ⟨b,cap,cs,t,[],h1,h2,h3,h4,⟨h6,rfl⟩,rfl⟩
theorem apK{H:Heap}{h:View}{row:Row}{cs:List Value}{N:List Nat}{j:Nat}{x:D}(q:iI H h row cs N)(hx:row[j]? =some x):
  ∃g Na N1 Nb,cs[j]? =some g∧N=Na++N1++Nb∧ow H h x g N1∧
   ∀(H':Heap) (h':View) (x':D) (N':List Nat),h.le h'→(∀b,b∈Na++Nb→H' b=H b)→ow H' h' x' g N'→iI H' h' (splice row j [x']) cs (Na++N'++Nb):=by
 obtain⟨e1,e2⟩:=KO (b:=x) hx
 have hjl:=(List.getElem?_eq_some_iff.1 hx).1
 rw[e2] at q
 obtain⟨Na,Nr,rfl,qa,qr⟩:=wB.1 q
 have l1:(row.take j).length=j:=by simp;omega
 rw[l1] at qr
 simp only[iI] at qr
 obtain⟨g,cs',N1,Nb,ec,rfl,q1,qb⟩:=qr
 refine⟨g,Na,N1,Nb, ?_,by simp,q1, ?_⟩
 ·have:(cs.drop j)[0]? =some g:=by rw[ec];rfl
  simpa using this
 ·intro H' h' x' N' hl hH q'
  have hs:splice row j [x']=row.take j++(x'::row.drop (j+1)):=by simp[splice]
  rw[hs,List.append_assoc,wB]
  refine⟨Na,N'++Nb,rfl,Gg hl _ _ _ (fun b hb=>hH b (by simp[hb])) qa, ?_⟩
  rw[l1,ec]
  simp only[iI]
  exact⟨g,cs',N',Nb,rfl,rfl,q',Gg hl _ _ _ (fun b hb=>hH b (by simp[hb])) qb⟩
theorem aog{H:Heap}{h:View}{s:Nat}{rows:List Row}{cs:List Value}{N:List Nat}{i:Nat}{row:Row}(q:fO H h s rows cs N)(hi:rows[i]? =some row):
  ∃Na N1 Nb,N=Na++N1++Nb∧row.length=s∧iI H h row (cs.drop (i * s)) N1∧
   ∀(H':Heap) (h':View) (row':Row) (N':List Nat),h.le h'→(∀b,b∈Na++Nb→H' b=H b)→row'.length=s→iI H' h' row' (cs.drop (i * s)) N'→fO H' h' s (rows.set i row') cs (Na++N'++Nb):=by
 have hil:=(List.getElem?_eq_some_iff.1 hi).1
 have e2:=(KO (b:=row) hi).2
 rw[e2] at q
 obtain⟨Na,Nr,rfl,qa,qr⟩:=xY.1 q
 have l1:(rows.take i).length=i:=by simp;omega
 rw[l1] at qr
 simp only[fO] at qr
 obtain⟨hl,N1,Nb,rfl,q1,qb⟩:=qr
 refine⟨Na,N1,Nb,by simp,hl,q1, ?_⟩
 intro H' h' row' N' hle hH hl' q'
 rw[(KO (b:=row') hi).1,List.append_assoc,xY]
 refine⟨Na,N'++Nb,rfl,wu hle s _ _ _ (fun b hb=>hH b (by simp[hb])) qa, ?_⟩
 rw[l1]
 simp only[fO]
 exact⟨hl',N',Nb,rfl,q',wu hle s _ _ _ (fun b hb=>hH b (by simp[hb])) qb⟩
theorem aeU{e:Nat}{fl:Bool}{out:List Row×List Cell}{q:IntKind×Int×Bool×Nat×List Row}(h:VB out=some q)(hc:aaB e fl q=true):
  out=([[.int q.1 q.2.1]],[.arr false fl 0 e q.2.2.2.2])∧TF fl q.2.2.2.2=true∧AQ q.2.2.2.2=true:=by
 unfold VB at h
 split at h
 ·rename_i k n fl' s' rs'
  simp only[Option.some.injEq] at h
  subst h
  simp only[aaB,Bool.and_eq_true,beq_iff_eq] at hc
  obtain⟨h1,rfl,h3,h4⟩:=hc
  have h1:=Nat.eq_of_beq_eq_true h1
  subst h1
  exact⟨rfl,h3,h4⟩
 ·cases h
section
variable {base:Nat} {U:Nat→Prop} {M0:List Nat} {w0 w:World} {ν:Nat→Value} {M:Mem} {nt:Nat} {S S':St} {G:GS} {a:Act} {X:Ctx} {K:jo} {fn:Nat}
theorem al5{args:Array Operand}{d1 d2:Nat}(h:amT args d1 d2=true):args=#[.tmp d1,.tmp d2]:=by
 unfold amT at h
 split at h
 ·rename_i a b he
  simp only[Bool.and_eq_true] at h
  have h1:=Nat.eq_of_beq_eq_true h.1
  have h2:=Nat.eq_of_beq_eq_true h.2
  subst h1;subst h2
  cases args
  simp at he
  rw[he]
 ·cases h
theorem atn(hK:QW X K U M0 w0)(R:Rel base U M0 w0 ν M nt w S G a){ops:Array Oper}{p:Nat}{rest:List Nat}{Q:Exit→Act→World→Prop}(hnt:DN X.P fn=nt)(h:DR X K fn ops p S=some S')
  (hn:∀w' G' a',Rel base U M0 w0 ν M nt w' S' G' a'→(Gh U w G).le (Gh U w' G')→wpOps X.P ops Q rest a' w'):wpOps X.P ops Q (p::(p+1)::(p+2)::rest) a w:=by
 simp only[DR] at h
 cases ho1:ops[p]? with
 |none=>simp[ho1] at h
 |some o1=>
 cases ho2:ops[p+1]? with
 |none=>simp[ho1,ho2] at h
 |some o2=>
 cases ho3:ops[p+2]? with
 |none=>simp[ho1,ho2,ho3] at h
 |some o3=>
 simp only[ho1,ho2,ho3] at h
 cases hr:(Lc X K S.tm o1 o2 o3).run S.mem .none with
 |none=>simp[hr] at h
 |some r=>
 obtain⟨⟨d1,d2,kv,v⟩,m',l'⟩:=r
 simp only[hr] at h
 cases hd:(Nat.blt d1 (DN X.P fn) &&(Nat.blt d2 (DN X.P fn) && Jp (DN X.P fn) o3.dst)) with
 |false=>simp[hd] at h
 |true=>
 simp only[hd,cond_true,Option.some.injEq] at h
 subst h
 simp only[Bool.and_eq_true] at hd
 obtain⟨hd1,hd2,hd3⟩:=hd
 rw[hnt] at hd1 hd2 hd3
 rw[Nat.blt_eq] at hd1 hd2
 unfold Lc at hr
 split at hr
 case h_2=>exact(au hr).elim
 case h_1 d1' t ta ty1 p1 af1 d2' x ty2 p2 af2 azX f args tys ty3 p3 af3=>
 replace hr:=aj hr;obtain⟨_,m1,l1,h1,hr⟩:=hr
 obtain⟨hck,rfl,rfl⟩:=eF h1
 simp only[Bool.and_eq_true,Bool.not_eq_true'] at hck
 obtain⟨hne,hargs,hoff,hok,hsz,hagg,hf⟩:=hck
 have hargs:=al5 hargs
 subst hargs
 replace hr:=aj hr;obtain⟨e,m1,l1,h1,hr⟩:=hr
 obtain⟨he,rfl,rfl⟩:=gU h1
 split at hr
 case h_2=>exact(au hr).elim
 case h_1 r ver i off k n hga hkv=>
 replace hr:=aj hr;obtain⟨c,m2,l2,h2,hr⟩:=hr
 rw[uO] at h2
 cases h2
 cases hc:get r S.mem with
 |none=>rw[hc] at hr;exact(au hr).elim
 |some c=>
 rw[hc] at hr
 split at hr
 case h_2=>exact(au hr).elim
 case h_1 _ iU s rows hcc=>
 cases hcc
 replace hr:=aj hr;obtain⟨_,m2,l2,h2,hr⟩:=hr
 obtain⟨hv,rfl,rfl⟩:=eF h2
 simp only[Bool.and_eq_true] at hv
 have aeQ:=Nat.eq_of_beq_eq_true hv.1
 subst aeQ
 have azY:=Nat.le_of_ble_eq_true hv.2
 replace hr:=aj hr;obtain⟨row,m2,l2,h2,hr⟩:=hr
 obtain⟨hrow,rfl,rfl⟩:=gU h2
 replace hr:=aj hr;obtain⟨rs,m2,l2,h2,hr⟩:=hr
 obtain⟨hown,rfl,rfl⟩:=gU h2
 replace hr:=aj hr;obtain⟨_,m2,l2,h2,hr⟩:=hr
 obtain⟨hout1,rfl,rfl⟩:=eF h2
 replace hr:=aj hr;obtain⟨out,m2,l2,h2,hr⟩:=hr
 obtain⟨hKc,rfl,rfl⟩:=gU h2
 replace hr:=aj hr;obtain⟨q,m2,l2,h2,hr⟩:=hr
 obtain⟨hq,rfl,rfl⟩:=gU h2
 replace hr:=aj hr;obtain⟨_,m2,l2,h2,hr⟩:=hr
 obtain⟨hqc,rfl,rfl⟩:=eF h2
 obtain⟨rfl,hout2,hpure⟩:=aeU hq hqc
 replace hr:=aj hr;obtain⟨_,m2,l2,h2,hr⟩:=hr
 rw[CZ] at h2
 cases h2
 simp only[run_pure,Option.some.injEq,Prod.mk.injEq] at hr
 obtain⟨⟨rfl,rfl,rfl,rfl⟩,rfl,_⟩:=hr
 have ha:=OI (P:=X.P) R.tm 0 (.tmp ta)
 simp only[ev] at ha
 rw[hga] at ha
 simp only[bJ,hc] at ha
 obtain⟨_,_,aKq⟩:=ha
 obtain⟨b,n0,cap0,hμ,aKr⟩:=aKq trivial
 have hcell:Qo (dR w) (Gh U w G) false s rows (G.μ r) (G.F r):=R.at_.ok.cell r _ hc (by rw[R.at_.out];simp)
 rcases hcell with⟨hnil,_,_⟩|⟨b',cap,cs,tt,N',hμ',hcap,hH,hsize,hrows,hF⟩
 ·rw[hnil] at hrow;simp at hrow
 rw[hμ] at hμ'
 simp only[Value.slice.injEq,Option.some.injEq,Addr.mk.injEq] at hμ'
 obtain⟨⟨rfl,_,_⟩,rfl,rfl⟩:=hμ'
 simp only at hrows
 obtain⟨Na,aT4,Nb,hN',hlen,aKs,putRow⟩:=aog hrows hrow
 have hx1:=aaM (by simpa[aeC] using hown)
 have hx:row[off]? =some (.sl true (lC X.P e) rs):=am0 hx1 (by simp)
 obtain⟨g,XE,Nc,XF,hcs,azZ,qow,ato⟩:=apK aKs hx
 have hcs':cs.toList[i * s+off]? =some g:=by simpa using hcs
 have avM:w.cell? ⟨b,i * s+off,none⟩=some g:=by
  have:=full_cell hH (i * s+off)
  rw[hcs'] at this
  exact this
 have aKt:=Nat.eq_of_beq_eq_true hsz
 have hload:(Instr.loadAt t (a.eval (.tmp ta))).run X.P w=.ok g w:=by
  rw[aKr]
  refine Jv (cs:=[g]) hok (by rw[aKt];rfl) (fun j v hj=> ?_) (by simp[valOf,hagg])
  cases j with
  |zero=>
   simp only[List.getElem?_cons_zero,Option.some.injEq] at hj
   subst hj
   simpa using avM
  |succ j=>simp at hj
 have R1:=R.put (v:=.undef) (g:=g) (dst:=some d1') R.at_.nx trivial (by simpa[Jp] using hd1)
 have aKu:ev X.P (put d1' .undef S.tm) ty2 x=.d (.int k n):=by
  rw[←hkv]
  cases x with
  |tmp j=>
   simp only[avA,Bool.not_eq_true'] at hoff
   simp only[ev,Px]
   rw[kN]
   intro e
   subst e
   simp at hoff
  |_=>rfl
 have hm1:=OI (P:=X.P) R1.tm ty2 x
 simp only[Um] at hm1
 rw[aKu] at hm1
 have R2:=R1.put (v:=.d (.int k n)) (dst:=some d2') R1.at_.nx hm1 (by simpa[Jp] using hd2)
 simp only[Um] at R1 R2
 have hgv:(a.put (some d1') g).eval x=.int k n:=by simpa[bJ,ro] using hm1
 have aKv:d1'≠d2':=by
  intro e
  subst e
  simp at hne
 have hs1:((a.put (some d1') g).put (some d2') ((a.put (some d1') g).eval x)).eval (.tmp d1')=g:=by
  simp only[Act.eval,Act.put]
  rw[Array.getD_eq_getD_getElem?,Array.getElem?_setIfInBounds_ne (Ne.symm aKv)]
  rw[Array.getElem?_setIfInBounds_self_of_lt (by rw[R.size];exact hd1)]
  rfl
 have hs2:((a.put (some d1') g).put (some d2') ((a.put (some d1') g).eval x)).eval (.tmp d2')=.int k n:=by
  rw[←hgv]
  simp only[Act.eval,Act.put]
  rw[Array.getD_eq_getD_getElem?,Array.getElem?_setIfInBounds_self_of_lt (by simp[R.size];exact hd2)]
  rfl
 simp only[apm,Bool.and_eq_true] at hf
 obtain⟨⟨avN,apt⟩,hfun⟩:=hf
 have avN:=Nat.eq_of_beq_eq_true avN
 have apt:=Nat.eq_of_beq_eq_true apt
 cases hg:X.P.funcs[f]? with
 |none=>simp[hg] at hfun
 |some fnc=>
 simp only[hg,Bool.and_eq_true,Bool.not_eq_true'] at hfun
 obtain⟨⟨hbody,hname⟩,hres⟩:=hfun
 cases hrt:fnc.resultTypes.toList with
 |nil=>simp[hrt] at hres
 |cons rt rts=>
 cases rts with
 |cons _ _=>simp[hrt] at hres
 |nil=>
 simp only[hrt,Bool.not_eq_true'] at hres
 have hFd:G.F r=b::(Na++(XE++Nc++XF)++Nb):=by rw[hF,hN',azZ]
 have afY:=R.at_.ok.nd r
 rw[hFd] at afY
 have hsub:∀y,y∈Nc→y∈G.F r:=fun y hy=>by rw[hFd];simp[hy]
 have al3:Given X base U w f [.own lD 0,.d (.int k n)] [.arr false (qm X.P e) 0 (lC X.P e) rs] [g,.int k n] [g] [] Nc:=by
  have aKw:Nc.Nodup:=by
   have h1:=(List.nodup_cons.1 afY).2
   have h2:=(List.nodup_append.1 (List.nodup_append.1 h1).1).2.1
   exact(List.nodup_append.1 (List.nodup_append.1 h2).1).2.1
  have hv:(Gh U w G).le (view w U (· ∈[]++Nc)):=LJ (fun _ x=>x) (fun y hy=> .inr ⟨r,hsub y (by simpa using hy)⟩)
  refine⟨by simpa using aKw,fun y hy=>R.at_.ok.lt y (.inr ⟨r,hsub y (by simpa using hy)⟩),R.at_.ok.up,R.at_.ok.bs, ?_, ?_,C9 hv (C9 R.at_.first hK.gl)⟩
  ·have hsl:OC g:=by
    simp only[ow] at qow
    rcases qow with⟨_,rfl,_⟩|⟨_,_,_,_,_,rfl,_⟩<;>exact⟨_,_,_,rfl⟩
   simp only[LK,avN,apt]
   refine⟨g,[.int k n],[],[],rfl,rfl,⟨rfl, ?_⟩,.int k n,[],[],[],rfl,rfl,⟨rfl,by simp[bJ,ro]⟩,rfl,rfl⟩
   simp[bJ,hsl,qj,get,impμ]
  ·exact⟨g,[],Nc,[],rfl,by simp,⟨rfl,rfl,GI hv (fun _ _=>rfl) (apJ hout1 qow)⟩,rfl,rfl⟩
 rw[wpOps_cons]
 unfold wpOp
 simp only[ho1,Region.wanted,if_true]
 refine .inl (ET (g:=g) (w':=w) (by simp[execOp,hload]) ?_)
 rw[wpOps_cons]
 unfold wpOp
 simp only[ho2,Region.wanted,if_true]
 refine .inl (ET (w':=w) (by simp[execOp];rfl) ?_)
 rw[wpOps_cons]
 unfold wpOp
 simp only[ho3,Region.wanted,if_true]
 left
 unfold Oper.wp
 have hrun:(execOp ((a.put (some d1') g).put (some d2') ((a.put (some d1') g).eval x)).eval ⟨azX,.call ⟨.value (.func f),#[.tmp d1',.tmp d2'],tys⟩,ty3,p3,af3,none⟩).run X.P w=.ok (.enter f #[g,.int k n]) w:=by
  have hnm : fnc.name ≠ "runtime.NumGoroutine" := by
   intro hh
   simp[hh] at hname
  have hbn:fnc.body≠none:=by
   intro hh
   simp[hh] at hbody
  have e1:(#[Operand.tmp d1',Operand.tmp d2'].map ((a.put (some d1') g).put (some d2') ((a.put (some d1') g).eval x)).eval)=#[g,.int k n]:=by
   simp[hs1,hs2]
  have ef:((a.put (some d1') g).put (some d2') ((a.put (some d1') g).eval x)).eval (.func f)=.func (.func f) #[] #[]:=rfl
  simp only[execOp,resolve,ef,e1,Deferred.ofValue,Sem.run_bind,Sem.run_pure,Result.andThen_ok,invoke]
  simp[callFunc,hg,hnm,hbn]
 rw[hrun,Oper.upon_enter]
 refine Calls.mono (hK.sound f fnc _ _ _ _ hg hbody hKc base U w [g,.int k n] [g] [] Nc al3) ?_
 rintro e w' ⟨gs,M1,M2,rfl,D⟩
 have hDr:=D.res
 rw[hrt] at hDr
 simp only[NS] at hDr
 obtain⟨row0,aTJ,g0,gs0,cs0,P1,P2,e1,e2,eM,hv0,ho0,hl0,e3,e4,e5⟩:=hDr
 simp only[List.cons.injEq] at e1
 obtain⟨rfl,rfl⟩:=e1
 subst e4
 subst e2
 simp only[valOf,hres,Bool.false_eq_true,if_false] at hv0
 subst hv0
 simp only[iI,ow] at ho0
 obtain⟨v0,cs',Q1,Q2,e6,eQ,⟨rfl,hQ1⟩,hQ2⟩:=ho0
 simp only[List.cons.injEq] at e6
 obtain⟨rfl,_⟩:=e6
 have hM2:M2=[]:=by rw[eM,eQ,hQ1,hQ2,e5];rfl
 obtain⟨g1,gs1,C1,C2,e7,e8,hcb,hcn⟩:=D.cells
 simp only[List.cons.injEq] at e7
 obtain⟨rfl,rfl⟩:=e7
 obtain⟨_,hC2⟩:=hcn
 obtain⟨_,_,harr⟩:=hcb
 have hM1:M1=C1:=by rw[e8,hC2];simp
 subst hM1
 have avO:Keep (G.F r) w w':=⟨D.keep.os,D.keep.tape,D.keep.output,D.keep.size,fun y hy hn'=>D.keep.block y hy (fun h'=>hn' (hsub y (by simpa using h')))⟩
 have avP:∀y,y∈M1→(y∈Nc∨w.heap.size≤y)∧y<w'.heap.size:=fun y hy=>by
  have:=D.mem y (by simp[hy])
  simpa using this
 have aKx:M1.Nodup:=by have:=D.nd;rw[hM2] at this;simpa using this
 have avQ:∀y,y∈G.F r→y<w.heap.size:=fun y hy=>(R.at_.ok.lt y (.inr ⟨r,hy⟩)).1
 have hother:∀y,y∈G.F r→y ∉ Nc→w'.heap[y]? =w.heap[y]? :=fun y hy hn'=>D.keep.block y (avQ y hy) (by simpa using hn')
 have hnew:(b::(Na++(XE++M1++XF)++Nb)).Nodup:=by
  have hperm:(b::(Na++(XE++M1++XF)++Nb)).Perm ((b::(Na++(XE++XF)++Nb))++M1):=by
   refine List.Perm.trans (List.Perm.cons b ?_) (by rw[List.cons_append])
   have h1:(XE++M1++XF).Perm ((XE++XF)++M1):=by
    rw[List.append_assoc,List.append_assoc]
    exact List.Perm.append_left _ List.perm_append_comm
   have h2:(Na++(XE++M1++XF)++Nb).Perm (Na++((XE++XF)++M1)++Nb):=List.Perm.append_right _ (List.Perm.append_left _ h1)
   refine h2.trans ?_
   rw[←List.append_assoc Na,List.append_assoc _ M1 Nb,List.append_assoc _ Nb M1]
   exact List.Perm.append_left _ List.perm_append_comm
  rw[hperm.nodup_iff]
  have hold:(b::(Na++(XE++XF)++Nb)).Nodup∧∀y,y∈(b::(Na++(XE++XF)++Nb))→y ∉ Nc:=by
   have al6:(b::(Na++(XE++Nc++XF)++Nb)).Perm ((b::(Na++(XE++XF)++Nb))++Nc):=by
    refine List.Perm.trans (List.Perm.cons b ?_) (by rw[List.cons_append])
    have h1:(XE++Nc++XF).Perm ((XE++XF)++Nc):=by
     rw[List.append_assoc,List.append_assoc]
     exact List.Perm.append_left _ List.perm_append_comm
    have h2:(Na++(XE++Nc++XF)++Nb).Perm (Na++((XE++XF)++Nc)++Nb):=List.Perm.append_right _ (List.Perm.append_left _ h1)
    refine h2.trans ?_
    rw[←List.append_assoc Na,List.append_assoc _ Nc Nb,List.append_assoc _ Nb Nc]
    exact List.Perm.append_left _ List.perm_append_comm
   have:=al6.nodup_iff.1 afY
   have h3:=List.nodup_append.1 this
   exact⟨h3.1,fun y hy hy'=>h3.2.2 y hy y hy' rfl⟩
  refine List.nodup_append.2 ⟨hold.1,aKx,fun y hy z hz hyz=> ?_⟩
  subst hyz
  rcases(avP y hz).1 with h'|h'
  ·exact hold.2 y hy h'
  ·have:y∈G.F r:=by
    rw[hFd]
    simp only[List.mem_cons,List.mem_append] at hy⊢
    rcases hy with h1|(h1|h1|h1)|h1<;>simp[h1]
   have:=avQ y this
   omega
 have am7:∀y,y∈b::(Na++(XE++XF)++Nb)→y∈G.F r∧y ∉ Nc:=by
  intro y hy
  refine⟨by
   rw[hFd]
   simp only[List.mem_cons,List.mem_append] at hy⊢
   rcases hy with h1|(h1|h1|h1)|h1<;>simp[h1],fun hc'=> ?_⟩
  have al6:(b::(Na++(XE++Nc++XF)++Nb)).Perm ((b::(Na++(XE++XF)++Nb))++Nc):=by
   refine List.Perm.trans (List.Perm.cons b ?_) (by rw[List.cons_append])
   have h1:(XE++Nc++XF).Perm ((XE++XF)++Nc):=by
    rw[List.append_assoc,List.append_assoc]
    exact List.Perm.append_left _ List.perm_append_comm
   have h2:(Na++(XE++Nc++XF)++Nb).Perm (Na++((XE++XF)++Nc)++Nb):=List.Perm.append_right _ (List.Perm.append_left _ h1)
   refine h2.trans ?_
   rw[←List.append_assoc Na,List.append_assoc _ Nc Nb,List.append_assoc _ Nb Nc]
   exact List.Perm.append_left _ List.perm_append_comm
  exact(List.nodup_append.1 (al6.nodup_iff.1 afY)).2.2 y hy y hc' rfl
 have hsame:∀y,y∈b::(Na++(XE++XF)++Nb)→dR w' y=dR w y:=fun y hy=>hother y (am7 y hy).1 (am7 y hy).2
 have hx:=R2.at_.rewrite (c':=.arr false false ver s (rows.set i (splice row off [.sl true (lC X.P e) q.2.2.2.2]))) (μ':=G.μ) (N:=b::(Na++(XE++M1++XF)++Nb)) hc avO hnew
  (fun y hy=>by
   have:y∈M1∨y∈b::(Na++(XE++XF)++Nb):=by
    simp only[List.mem_cons,List.mem_append] at hy⊢
    rcases hy with h1|(h1|(h1|h1)|h1)|h1<;>simp[h1]
   rcases this with h1|h1
   ·exact⟨(avP y h1).1.imp (hsub y) id,(avP y h1).2⟩
   ·exact⟨.inl (am7 y h1).1,Nat.lt_of_lt_of_le (avQ y (am7 y h1).1) D.keep.size⟩)
  (fun _ _=>rfl) ⟨Nat.le_refl _,rfl,fun _=>⟨rfl,rfl⟩⟩
  (fun h' hle hml=>by
   show Qo (dR w') h' false s _ (G.μ r) _
   refine .inr ⟨b,cap0,cs,tt,Na++(XE++M1++XF)++Nb, ?_, ?_, ?_,hsize, ?_,rfl⟩
   ·rw[hμ];simp
   ·simpa using hcap
   ·rw[hsame b (by simp)];exact hH
   ·refine putRow (dR w') h' _ _ hle (fun y hy=>hsame y (by
     simp only[List.mem_cons,List.mem_append] at hy⊢
     rcases hy with h1|h1<;>simp[h1])) ?_ ?_
    ·rw[Bq (by simpa[hlen] using azY),hlen]
    ·refine ato (dR w') h' _ M1 hle (fun y hy=>hsame y (by
      simp only[List.mem_cons,List.mem_append] at hy⊢
      rcases hy with h1|h1<;>simp[h1])) ?_
     exact amY (.sl true (lC X.P e) q.2.2.2.2) _ _ hpure (aeN hout2 harr))
 have hfin:=R2.put (v:=.d (.int q.1 q.2.1)) (g:=.int q.1 q.2.1) (dst:=azX) hx (by simp[bJ,ro]) hd3
 exact hn w' _ _ hfin hx.view
end
end Go.Vm
namespace Go.Vm
open Go
section
variable {base:Nat} {U:Nat→Prop} {M0:List Nat} {w0 w:World} {ν:Nat→Value} {M:Mem} {nt:Nat} {S T:St} {G:GS} {a:Act} {X:Ctx} {K:jo} {fn:Nat} {ops:Array Oper}
theorem adR:∀{is:List Nat} {S S':St} {L L':List (Nat×Log)},uK X K fn ops is S L=some (S',L')→
  ∃T:List (Nat×Log),L'=T.reverse++L∧Tr X K fn ops T S S'∧T.map (·.1)=is
 |[],S,S',L,L',h=>by
  simp only[uK,Option.some.injEq,Prod.mk.injEq] at h
  obtain⟨rfl,rfl⟩:=h
  exact⟨[],rfl,rfl,rfl⟩
 |i::is,S,S',L,L',h=>by
  simp only[uK] at h
  cases h1:yC X K fn ops i S with
  |none=>simp[h1] at h
  |some r=>
   obtain⟨S1,l1⟩:=r
   simp only[h1] at h
   obtain⟨T,e,t,m⟩:=adR h
   exact⟨(i,l1)::T,by rw[e];simp,⟨S1,h1,t⟩,by simp[m]⟩
theorem TQ:∀{l:List Oper} {n k:Nat} {o:Oper},QK n l=true→l[k]? =some o→∀e,e∈o.after→Region.binds .any e=true→e.on<n+k
 |[],_,_,_,_,h=>by simp at h
 |o'::l,n,0,o,hb,h=>by
  simp only[List.getElem?_cons_zero,Option.some.injEq] at h
  subst h
  simp only[QK,Bool.and_eq_true] at hb
  intro e he hbi
  have:=List.all_eq_true.1 hb.1 e (by simpa using he)
  rw[hbi] at this
  simpa using this
 |o'::l,n,k+1,o,hb,h=>by
  simp only[QK,Bool.and_eq_true] at hb
  intro e he hbi
  have:=TQ hb.2 (by simpa using h) e he hbi
  omega
theorem agd{k:Nat}{o:Oper}(hb:backOk ops=true)(h:ops[k]? =some o):∀e,e∈o.after→Region.binds .any e=true→e.on<k:=by
 intro e he hbi
 have:=TQ (n:=0) hb (k:=k) (o:=o) (by simpa using h) e he hbi
 omega
theorem any_ok(hK:QW X K U M0 w0)(hnt:DN X.P fn=nt)(hb:backOk ops=true){Q:Exit→Act→World→Prop}:∀(fuel:Nat) {listed:Array Bool} {L:List (Nat×Log)} {w:World} {S S':St} {G:GS} {a:Act}
  (_:L.length≤fuel) (_:listed.size=ops.size) (_:Cl ops listed) (_:∀i,i<ops.size→(listed.getD i true=false↔i∈L.map (·.1))) (_:(L.map (·.1)).Nodup)
  (_:Ok ops L) (_:Tr X K fn ops L S S') (_:Rel base U M0 w0 ν M nt w S G a)
  (_:∀w' G' a',Rel base U M0 w0 ν M nt w' S' G' a'→(Gh U w G).le (Gh U w' G')→Q .normal a' w'),wpAny X.P .any ops Q fuel listed a w
 |0,listed,L,w,S,S',G,a,hf,hs,hcl,hl,hnd,hok,htr,R,hn=>by
  have:L=[]:=List.length_eq_zero_iff.1 (Nat.le_zero.1 hf)
  subst this
  cases htr
  refine⟨?_,hn w G a R (View.le_refl _)⟩
  rw[List.eq_nil_iff_forall_not_mem]
  intro i hi
  obtain⟨h1,o,h2,_⟩:=mem_ready.1 hi
  have hlt:i<ops.size:=(Array.getElem?_eq_some_iff.1 h2).1
  simpa using(hl i hlt).1 h1
 |fuel+1,listed,L,w,S,S',G,a,hf,hs,hcl,hl,hnd,hok,htr,R,hn=>by
  refine⟨fun hr=> ?_,fun i hi=> ?_⟩
  ·have hL:L=[]:=by
    rw[List.eq_nil_iff_forall_not_mem]
    have hall:∀i,i ∉ L.map (·.1):=by
     intro i
     induction i using Nat.strongRecOn with
     |_ i ih=>
      intro hi
      have hlt:i<ops.size:=by
       rcases Nat.lt_or_ge i ops.size with h|h
       ·exact h
       ·obtain⟨⟨i',l⟩,hx,rfl⟩:=List.mem_map.1 hi
        exfalso
        have:∀{L:List (Nat×Log)} {S S':St},Tr X K fn ops L S S'→∀x,x∈L→∃o,ops[x.1]? =some o:=by
         intro L
         induction L with
         |nil=>intro _ _ _ x hx;simp at hx
         |cons y L ihL=>
          rintro S S' ⟨S1,h1,h2⟩ x hx
          rcases List.mem_cons.1 hx with rfl|hx
          ·exact aa5 h1
          ·exact ihL h2 x hx
        obtain⟨o,ho⟩:=this htr _ hx
        have:=(Array.getElem?_eq_some_iff.1 ho).1
        simp at this h
        omega
      have hni:i ∉ Region.ready .any ops listed:=by rw[hr];simp
      apply hni
      rw[mem_ready]
      refine⟨(hl i hlt).2 hi,ops[i],by simp[hlt],fun e he hbi=> ?_⟩
      have hei:=agd hb (k:=i) (by simp[hlt]) e he hbi
      have hel:e.on<ops.size:=Nat.lt_trans hei hlt
      have:=ih e.on hei
      rw[←hl e.on hel] at this
      have hsz:e.on<listed.size:=by rw[hs];exact hel
      simp only[Array.getD,hsz,dite_true] at this⊢
      simpa using this
    intro x hx
    exact hall x.1 (List.mem_map.2 ⟨x,hx,rfl⟩)
   subst hL
   cases htr
   exact hn w G a R (View.le_refl _)
  ·obtain⟨h1,o,h2,h3⟩:=mem_ready.1 hi
   have hlt:i<ops.size:=(Array.getElem?_eq_some_iff.1 h2).1
   obtain⟨⟨i',l⟩,hx,rfl⟩:=List.mem_map.1 ((hl i hlt).1 h1)
   obtain⟨pre,post,rfl⟩:=List.append_of_mem hx
   simp only at h1 h2 h3 hlt hi
   have hsz:i'<listed.size:=by rw[hs];exact hlt
   have hun:∀x,x∈pre→listed.getD x.1 false=false∧x.1<ops.size:=by
    intro x hxp
    have hxo:∃o,ops[x.1]? =some o:=by
     have:∀{L:List (Nat×Log)} {S S':St},Tr X K fn ops L S S'→∀x,x∈L→∃o,ops[x.1]? =some o:=by
      intro L
      induction L with
      |nil=>intro _ _ _ x hx;simp at hx
      |cons y L ihL=>
       rintro S S' ⟨S1,h1,h2⟩ x hx
       rcases List.mem_cons.1 hx with rfl|hx
       ·exact aa5 h1
       ·exact ihL h2 x hx
     exact this htr x (by simp[hxp])
    obtain⟨ox,hox⟩:=hxo
    have hxl:=(Array.getElem?_eq_some_iff.1 hox).1
    have:=(hl x.1 hxl).2 (List.mem_map.2 ⟨x,by simp[hxp],rfl⟩)
    have hsx:x.1<listed.size:=by rw[hs];exact hxl
    simp only[Array.getD,hsx,dite_true] at this⊢
    exact⟨this,hxl⟩
   have aKy:∀x,x∈pre→agb ops x.1 i' x.2 l:=by
    intro x hxp
    have:=(List.pairwise_append.1 hok).2.2 x hxp (i',l) (by simp)
    rcases this with ho|ho
    ·exfalso
     obtain⟨o',e,q1,q2,q3,q4⟩:=aa6 ho
     simp only at q1
     rw[h2] at q1
     cases q1
     have hel:=h3 e q2 q3
     have hx0:=(hun x hxp).1
     rcases q4 with q4|⟨_,q4⟩
     ·rw[q4,hel] at hx0;cases hx0
     ·rw[hcl.path e.on x.1 hel q4] at hx0;cases hx0
    ·exact ho
   obtain⟨S'',⟨S1,r1,r2⟩,hE⟩:=Tr.front htr aKy
   refine aga hK hnt R r1 fun w1 G1 a1 R1 v1=> ?_
   have hnd':((pre++post).map (·.1)).Nodup∧i' ∉(pre++post).map (·.1):=by
    have h':(pre.map (·.1)++i'::post.map (·.1)).Nodup:=by simpa using hnd
    have h'':=(List.perm_middle (a:=i') (l₁:=pre.map (·.1)) (l₂:=post.map (·.1))).nodup_iff.1 h'
    rw[List.nodup_cons] at h''
    exact⟨by simpa using h''.2,by simpa using h''.1⟩
   refine any_ok hK hnt hb fuel (L:=pre++post) ?_ ?_ ?_ ?_ hnd'.1 ?_ r2 R1 ?_
   ·simp at hf⊢;omega
   ·simp[hs]
   ·intro k hk o' ho' e he hbd
    by_cases hki:k=i'
    ·subst hki
     rw[h2] at ho'
     cases ho'
     have:=h3 e he hbd
     by_cases hei:k=e.on
     ·simp[Array.getD,←hei,hsz]
     ·rw[getD_set_ne false hei];exact this
    ·rw[getD_set_ne false (Ne.symm hki)] at hk
     have:=hcl k hk o' ho' e he hbd
     by_cases hei:i'=e.on
     ·simp[Array.getD,←hei,hsz]
     ·rw[getD_set_ne false hei];exact this
   ·intro k hk
    by_cases hki:k=i'
    ·subst hki
     have e1:(listed.setIfInBounds k true).getD k true=true:=by simp[Array.getD,hsz]
     rw[e1]
     exact⟨fun h=>by simp at h,fun h=>absurd h hnd'.2⟩
    ·rw[getD_set_ne true (Ne.symm hki),hl k hk]
     simp[hki]
   ·have h':=List.pairwise_append.1 hok
    exact List.pairwise_append.2 ⟨h'.1,(List.pairwise_cons.1 h'.2.1).2,fun x hx y hy=>h'.2.2 x hx y (by simp[hy])⟩
   ·intro w' G' a' R' v'
    exact hn w' G' a' (R'.eqv hE.symm) (v1.trans' v')
theorem al7{n p:Nat}(h:p+2<n):List.range n=List.range p++(p::(p+1)::(p+2)::(List.range n).drop (p+3)):=by
 have e:∀k,k<n→(List.range n).drop k=k::(List.range n).drop (k+1):=by
  intro k hk
  rw[List.drop_eq_getElem_cons (by simpa using hk)]
  simp
 rw[←e (p+2) h,←e (p+1) (by omega),←e p (by omega)]
 have:List.range p=(List.range n).take p:=by rw[List.take_range,Nat.min_eq_left (by omega)]
 rw[this,List.take_append_drop]
theorem aoh(hK:QW X K U M0 w0)(hnt:DN X.P fn=nt)(hM:∀r c,get r M=some c→Jr r=true):auT base U M0 w0 ν M nt X K fn:=by
 intro id ops draw w S S' G a Q R h hn
 simp only[region] at h
 cases hr:yK X K fn id ops draw S with
 |none=>simp[hr] at h
 |some r=>
  obtain⟨S1,L⟩:=r
  simp only[hr] at h
  have hfin:prune (X.Jd.keep fn id) S1=some S'→∀w1 G1 a1,Rel base U M0 w0 ν M nt w1 S1 G1 a1→(Gh U w G).le (Gh U w1 G1)→Q .normal a1 w1:=by
   intro hp w1 G1 a1 R1 v1
   obtain⟨G2,R2,v2⟩:=apH R1 hM hp
   exact hn w1 G2 a1 R2 (v1.trans' v2)
  simp only[yK] at hr
  cases hfu:X.Jd.fuse fn id with
  |succ p=>
   rw[hfu] at hr
   cases draw with
   |true=>simp at hr
   |false=>
    simp only at hr
    simp only[cond_true] at h
    cases h1:uK X K fn ops (List.range p) S [] with
    |none=>simp[h1] at hr
    |some r1=>
     obtain⟨T1,L1⟩:=r1
     simp only[h1] at hr
     cases h2:DR X K fn ops p T1 with
     |none=>simp[h2] at hr
     |some T2=>
      simp only[h2] at hr
      have hlt:p+2<ops.size:=by
       simp only[DR] at h2
       cases hq:ops[p+2]? with
       |some o=>exact(Array.getElem?_eq_some_iff.1 hq).1
       |none=>
        rw[hq] at h2
        split at h2
        ·rename_i h3;simp at h3
        ·cases h2
      refine wp_region ?_
      rw[al7 hlt]
      refine UL hK hnt R h1 fun w1 G1 a1 R1 v1=> ?_
      refine atn hK R1 hnt h2 fun w2 G2 a2 R2 v2=> ?_
      exact adO hK hnt R2 hr fun w3 G3 a3 R3 v3=>hfin h w3 G3 a3 R3 ((v1.trans' v2).trans' v3)
  |zero=>
  rw[hfu] at hr
  simp only at hr
  cases draw with
  |false=>
   simp only[cond_true] at h
   exact wp_region (adO hK hnt R hr (hfin h))
  |true=>
   simp only at h
   cases hc:(X.P.follows .mixedOrders &&(backOk ops && QJ ops (Region.before ops) L)) with
   |false=>simp[hc] at h
   |true=>
    simp only[hc,cond_true] at h
    simp only[Bool.and_eq_true] at hc
    obtain⟨hm,hb,hd⟩:=hc
    obtain⟨T,e,ht,hmp⟩:=adR hr
    simp only[List.append_nil] at e
    subst e
    have hok:Ok ops T:=by
     have:=YK hd
     rw[List.pairwise_reverse] at this
     exact this
    have hlen:T.length=ops.size:=by
     have:=congrArg List.length hmp
     simpa using this
    have hR':Rel base U M0 w0 ν M nt {w with drawn:=w.drawn+1} S G a:=by
     have ok:=R.at_.ok
     have fr:=R.at_.fr
     have kp:=fr.keep
     exact⟨⟨⟨ok.cell,ok.dj,ok.djE,ok.nd,ok.ndE,ok.lt,ok.up,ok.bs,ok.none_,ok.out_⟩,R.at_.E,R.at_.out,⟨⟨kp.os,kp.tape,kp.output,kp.size,kp.block⟩,fr.fr⟩⟩,R.tm,R.size,R.defers,R.imp⟩
    refine wp_region_any hm (any_ok hK hnt hb ops.size (L:=T) (by omega) (by simp) ?_ ?_ ?_ hok ht hR' ?_)
    ·intro k hk
     simp[Array.getD] at hk
    ·intro i hi
     simp[Array.getD,hi,hmp]
    ·rw[hmp];exact List.nodup_range
    ·intro w' G' a' R' v'
     exact hfin h w' G' a' R' v'
end
end Go.Vm
namespace Go.Vm
open Go
section
variable {base:Nat} {U:Nat→Prop} {w:World} {X:Ctx}
theorem aoi{f i:Nat}{fl:Bool}{m:Mem}{G:GS}{v v':V}{g:Value}{N N1 N2 E:List Nat}(hg:BL base U w m G)(ho:G.out=[])(hN:N=N1++N2)(hE:(N++E).Perm G.E)
  (hq:match EH X.Jd f i with
   |1=>∃x,v=.d x∧ow (dR w) (Gh U w G) x g N1
   |_=>N1=[]∧bJ G.μ m (Gh U w G) v g) {m':Mem} {l l':Log} (h:(alW X.Jd f i fl v).run m l=some (v',m',l')):
  ∃G',BL base U w m' G'∧QM m G m' G'∧(N2++E).Perm G'.E∧G'.out=[]∧bJ G'.μ m' (Gh U w G') v' g:=by
 subst hN
 rw[List.append_assoc] at hE
 unfold alW at h
 split at hq
 ·rename_i hmo
  obtain⟨x,rfl,hx⟩:=hq
  rw[hmo] at h
  simp only at h
  have hdef:∀y,ow (dR w) (Gh U w G) y g N1→(Pure.pure (V.d (roD y)):Acc V).run m l=some (v',m',l')→
    ∃G',BL base U w m' G'∧QM m G m' G'∧(N2++E).Perm G'.E∧G'.out=[]∧bJ G'.μ m' (Gh U w G') v' g:=by
   intro y hy h
   simp only[run_pure,Option.some.injEq,Prod.mk.injEq] at h
   obtain⟨rfl,rfl,rfl⟩:=h
   obtain⟨d1,d2,d3⟩:=hg.aaN hE
   refine⟨_,d1,d2,List.Perm.refl _,ho, ?_⟩
   simp only[bJ]
   exact apq (d3 hy)
  split at h
  ·rename_i s rows he
   cases he
   replace h:=aj h;obtain⟨x1,m1,l1,h1,h⟩:=h
   simp only[run_pure,Option.some.injEq,Prod.mk.injEq] at h
   obtain⟨rfl,rfl,rfl⟩:=h
   obtain⟨G1,g1,s1⟩:=adF hg (fun r hr=>by rw[ho] at hr;simp at hr) hE hx h1
   exact⟨G1,g1.ok,g1.le,by rw[g1.E],g1.out.trans ho,s1⟩
  ·rename_i y hne he
   cases he
   exact hdef _ hx h
  ·exact(au h).elim
 ·rename_i hmo
  obtain⟨rfl,hs⟩:=hq
  split at h
  ·rename_i e;exact absurd e hmo
  ·simp only[run_pure,Option.some.injEq,Prod.mk.injEq] at h
   obtain⟨rfl,rfl,rfl⟩:=h
   exact⟨G,hg,QM.refl _ _,by simpa using hE,ho,hs⟩
theorem aa8{f:Nat}:∀{vs:List V} {i:Nat} {ts:List TypeId} {gs:List Value} {m:Mem} {G:GS} {N E:List Nat} (_:BL base U w m G) (_:G.out=[]) (_:(N++E).Perm G.E)
  (_:LK X.Jd f G.μ m (dR w) (Gh U w G) i vs gs N) {tm:jP} {m':Mem} {l l':Log} (_:(VD X f i ts vs).run m l=some (tm,m',l')),
  ∃G',Came base U w m G m' G' E∧∀t v,get t tm=some v→∃k g,t=i+k∧gs[k]? =some g∧bJ G'.μ m' (Gh U w G') v g
 |[],i,ts,gs,m,G,N,E,hg,ho,hE,hq,tm,m',l,l',h=>by
  simp only[VD,run_pure,Option.some.injEq,Prod.mk.injEq] at h
  obtain⟨rfl,rfl,rfl⟩:=h
  obtain⟨d1,d2,_⟩:=hg.aaN hE
  exact⟨_,⟨d1,d2,rfl,ho⟩,fun t v ht=>by simp[get] at ht⟩
 |v::vs,i,ts,gs,m,G,N,E,hg,ho,hE,hq,tm,m',l,l',h=>by
  simp only[LK] at hq
  obtain⟨g,gs',N1,N2,rfl,hN,q1,q2⟩:=hq
  simp only[VD] at h
  replace h:=aj h;obtain⟨v1,m1,l1,h1,h⟩:=h
  replace h:=aj h;obtain⟨r,m2,l2,h2,h⟩:=h
  simp only[run_pure,Option.some.injEq,Prod.mk.injEq] at h
  obtain⟨rfl,rfl,rfl⟩:=h
  obtain⟨G1,g1,le1,e1,o1,s1⟩:=aoi hg ho hN hE q1 h1
  have q2':=OG (A:=X.Jd) (f:=f) le1.mem le1.view (H':=dR w) (fun _ _=>rfl) q2
  obtain⟨G2,c2,s2⟩:=aa8 g1 o1 e1 q2' h2
  refine⟨G2,⟨c2.ok,le1.trans c2.le,c2.E,c2.out⟩,fun t u ht=> ?_⟩
  simp only[get] at ht
  by_cases hti:t=i
  ·subst hti
   simp only[Nat.beq_refl,cond_true,Option.some.injEq] at ht
   subst ht
   exact⟨0,g,by simp,rfl,c2.le.bJ s1⟩
  ·rw[uN hti] at ht
   simp only[cond_false] at ht
   obtain⟨k,g',e,hk,hs⟩:=s2 t u ht
   exact⟨k+1,g',by omega,by simpa using hk,hs⟩
theorem YM{A:Adv}{f:Nat}{μ:Nat→Value}{m:Mem}{H:Heap}{h:View}:∀{vs:List V} {i:Nat} {gs:List Value} {N:List Nat},LK A f μ m H h i vs gs N→gs.length=vs.length
 |[],_,_,_,q=>by simp only[LK] at q;simp[q.1]
 |v::vs,i,_,_,q=>by
  simp only[LK] at q
  obtain⟨g,gs',N1,N2,rfl,_,_,q2⟩:=q
  simp[YM q2]
theorem Om{H:Heap}{h:View}:∀{cs:List Cell} {gs:List Value} {N:List Nat},cellsB H h cs gs N→gs.length=cs.length
 |[],_,_,q=>by simp[q.1]
 |c::cs,_,_,⟨g,gs',N1,N2,e,_,_,q⟩=>by subst e;simp[Om q]
theorem aa9{H:Heap}{h:View}{c:Cell}{g:Value}{N:List Nat}(q:afV H h c g N):sameKind c c:=by
 cases c with
 |box t vs=>exact rfl
 |arr fz fl ver s rows=>obtain⟨_,hv,_⟩:=q;exact⟨hv,hv,rfl,rfl⟩
 |dead=>exact q
 |DJ _ _ _=>exact q
theorem XG{H:Heap}{h:View}{m:Mem}:∀{cs:List Cell} {k:Nat} {gs:List Value} {N:List Nat},(∀i,get (lD+(k+i)) m=cs[i]?)→cellsB H h cs gs N→kinds m ((List.range' k cs.length).map (lD+ ·)) cs
 |[],k,gs,N,_,_=>by simp[kinds]
 |c::cs,k,_,_,hm,⟨g,gs',N1,N2,e,_,q1,q2⟩=>by
  rw[List.length_cons,List.range'_succ,List.map_cons]
  refine⟨c,c,cs,rfl,by have:=hm 0;simpa using this,aa9 q1,XG (fun i=> ?_) q2⟩
  have:=hm (i+1)
  rw[show k+1+i=k+(i+1) by omega]
  simpa using this
theorem abb(n:Nat):rX n=(List.range' 0 n).map (lD+ ·):=by rw[rX,List.range_eq_range']
theorem TR(n:Nat):(rX n).Nodup:=by
 unfold rX
 exact List.Pairwise.map _ (fun a b h e=>h (Nat.add_left_cancel e)) List.nodup_range
theorem YN{n i:Nat}(h:i<n):(rX n)[i]? =some (lD+i):=by simp[rX,h]
theorem abd(n:Nat):(rX n).length=n:=by simp[rX]
theorem YO(gs:List Value):(rX gs.length).map (impμ gs)=gs:=by
 apply List.ext_getElem?
 intro i
 rw[List.getElem?_map]
 by_cases h:i<gs.length
 ·rw[YN h]
  simp[impμ,h]
 ·rw[List.getElem?_eq_none (by rw[abd];omega),List.getElem?_eq_none (by omega)]
  rfl
theorem Lj:∀{cs:List Cell} {k r:Nat} {c:Cell},get r (qj k cs)=some c→∃i,r=lD+(k+i)∧cs[i]? =some c
 |[],_,_,_,h=>by simp[qj,get] at h
 |c'::cs,k,r,c,h=>by
  simp only[qj,get] at h
  by_cases e:r=lD+k
  ·subst e
   simp only[Nat.beq_refl,cond_true,Option.some.injEq] at h
   exact⟨0,by simp,by simp[h]⟩
  ·rw[uN e] at h
   simp only[cond_false] at h
   obtain⟨i,h1,h2⟩:=Lj h
   exact⟨i+1,by omega,by simpa using h2⟩
theorem apL{f:Nat}{fn:Func}{args:List V}{cells:List Cell}{gargs kD:List Value}{N1 N2:List Nat}(hG:Given X base U w f args cells gargs kD N1 N2){tm:jP}{m':Mem}{l':Log}
  (h:(entry X f fn args cells).run (qj 0 cells) .none=some (tm,m',l')) (hn:args.length≤fn.ntmps):
  ∃G,Rel base U (N1++N2) w (impμ kD) (qj 0 cells) fn.ntmps w ⟨tm,m'⟩ G {tmps:=gargs.toArray++Array.replicate (fn.ntmps - gargs.toArray.size) undef,defers:=[]}:=by
 simp only[entry] at h
 replace h:=aj h;obtain⟨_,m1,l1,h1,h⟩:=h
 have hlen:=Om hG.cells
 have avR:∀b,excl (fun _=>[]) (N1++N2) b↔b∈N1++N2:=by
  intro b
  constructor
  ·rintro(hb|⟨r,hb⟩)
   ·exact hb
   ·simp at hb
  ·exact fun hb=> .inl hb
 have hg0:BL base U w (qj 0 cells) ⟨impμ kD,fun _=>[],N1++N2,rX cells.length⟩:=by
  refine⟨?_, ?_, ?_, ?_,hG.nd, ?_,hG.up,hG.bs, ?_, ?_⟩
  ·intro r c hr hro
   exfalso
   apply hro
   obtain⟨i,e,hi⟩:=Lj hr
   have hil:i<cells.length:=(List.getElem?_eq_some_iff.1 hi).1
   show r∈rX cells.length
   rw[e,rX]
   exact List.mem_map.2 ⟨0+i,List.mem_range.2 (by omega),rfl⟩
  ·intro r r' _ b hb;simp at hb
  ·intro r b hb;simp at hb
  ·intro r;simp
  ·intro b hb
   exact hG.lt b ((avR b).1 hb)
  ·intro r _;rfl
  ·intro r _;rfl
 have hv:(view w U (· ∈N1++N2)).le (Gh U w ⟨impμ kD,fun _=>[],N1++N2,rX cells.length⟩):=LJ (fun _ x=>x) (fun b hb=>(avR b).1 hb)
 have hk0:kinds (qj 0 cells) (rX cells.length) (cells.drop 0):=by
  rw[List.drop_zero,abb]
  exact XG (fun i=>by rw[Nat.zero_add];exact KN cells i) hG.cells
 obtain⟨G1,c1⟩:=VL (i:=0) (N:=N2) (E:=N1) hg0 (TR _) rfl hk0 List.perm_append_comm (by
  rw[List.drop_zero,←hlen,YO]
  exact GN hv hG.cells) h1
 obtain⟨G2,c2,s2⟩:=aa8 (N:=N1) (E:=[]) c1.ok c1.out (by rw[c1.E];simp) (OG c1.le.mem (hv.trans' c1.le.view) (fun _ _=>rfl) hG.args) h
 have hal:=YM hG.args
 refine⟨G2,⟨c2.ok,c2.E,c2.out,⟨Keep.refl _ _,fun b hb=> .inl ((avR b).1 (c1.le.ex b (c2.le.ex b hb)))⟩⟩, ?_, ?_,rfl,rC c1.le.mem c2.le.mem⟩
 ·intro t v ht
  obtain⟨k,g,e,hk,hs⟩:=s2 t v ht
  have hkl:k<gargs.length:=(List.getElem?_eq_some_iff.1 hk).1
  have ht':t<(gargs.toArray++Array.replicate (fn.ntmps - gargs.toArray.size) undef).size:=by simp;omega
  refine⟨ht', ?_⟩
  have:(gargs.toArray++Array.replicate (fn.ntmps - gargs.toArray.size) undef).getD t undef=g:=by
   rw[Array.getD_eq_getD_getElem?,Array.getElem?_append_left (by simp;omega)]
   have:t=k:=by omega
   subst this
   simp[hk]
  simp only[this]
  exact hs
 ·simp
  omega
end
end Go.Vm
namespace Go.Vm
open Go
section
variable {base:Nat} {U:Nat→Prop} {w:World} {X:Ctx} {P:Program}
def aeV(tmps:Array Value):ResultVar→Sem Value
 | .tmp t=>pure (tmps.getD t undef)
 | .cell a t=>do loadVar t (←asAddr (tmps.getD a undef))
theorem TS{α:Type}(f:α→Sem Value):∀(l:List α) (gs:List Value),(∀(i:Nat) x,l[i]? =some x→∃g,gs[i]? =some g∧(f x).run P w=.ok g w)→l.length=gs.length→(l.mapM f).run P w=.ok gs w
 |[],gs,_,hl=>by
  have:gs=[]:=List.length_eq_zero_iff.1 hl.symm
  subst this
  rfl
 |x::l,gs,h,hl=>by
  cases gs with
  |nil=>simp at hl
  |cons g gs=>
   obtain⟨g',h1,h2⟩:=h 0 x rfl
   simp only[List.getElem?_cons_zero,Option.some.injEq] at h1
   subst h1
   have ih:=TS f l gs (fun i y hy=>by simpa using h (i+1) y (by simpa using hy)) (by simpa using hl)
   rw[List.mapM_cons]
   simp only[Sem.run_bind,h2,Result.andThen_ok,ih]
   rfl
theorem YP{fn:Func}{tmps:Array Value}{gs:List Value}(h:∀(i:Nat) x,fn.results.toList[i]? =some x→∃g,gs[i]? =some g∧(aeV tmps x).run P w=.ok g w)(hl:fn.results.toList.length=gs.length):
  (results fn tmps).run P w=.ok (Zg gs) w:=by
 have hm:=TS (P:=P) (w:=w) (aeV tmps) fn.results.toList gs h hl
 have e:results fn tmps=(do
  let vs←fn.results.mapM (aeV tmps)
  pure (if h:vs.size=1 then vs[0] else .tuple vs)):=by
  unfold results
  first
   |rfl
   |(congr 1;done)
   |(congr 1;congr 1;done)
 rw[e,Array.mapM_eq_mapM_toList]
 simp only[map_eq_pure_bind,Sem.run_bind,hm,Result.andThen_ok,Sem.run_pure]
 congr 1
 unfold Zg
 cases gs with
 |nil=>rfl
 |cons g gs=>cases gs with
  |nil=>simp
  |cons _ _=>simp
theorem aoj{m:Mem}{G:GS}{tm:jP}{a:Act}{r:ResultVar}{t:TypeId}(hg:BL base U w m G)(ho:G.out=[])(hT:VN G.μ m (Gh U w G) tm a){row:Row}{m':Mem}{l l':Log}(h:(aeK P tm r t).run m l=some (row,m',l')):
  ∃G' N g cs,Jl base U w m G m' G' N∧(aeV a.tmps r).run P w=.ok g w∧valOf P t cs g∧iI (dR w) (Gh U w G') row cs N∧row.length=cs.length:=by
 cases r with
 |tmp x=>
  simp only[aeK] at h
  have hx:=OI (P:=P) hT 0 (.tmp x)
  simp only[ev] at hx
  have hgo:∀v:V,bJ G.μ m (Gh U w G) v (a.eval (.tmp x))→Jk P t=false→(Jo [v]).run m l=some (row,m',l')→
    ∃G' N g cs,Jl base U w m G m' G' N∧(aeV a.tmps (.tmp x)).run P w=.ok g w∧valOf P t cs g∧iI (dR w) (Gh U w G') row cs N∧row.length=cs.length:=by
   intro v hv ht h
   obtain⟨G',N,t1,q1,hl⟩:=OD hg (vs:=[v]) (gs:=[a.eval (.tmp x)]) (by simp only[dO];exact⟨_,_,rfl,hv,rfl⟩) ho h
   exact⟨G',N,a.eval (.tmp x),[a.eval (.tmp x)],t1,rfl,by simp[valOf,ht],q1,by rw[hl];rfl⟩
  cases ht:Jk P t with
  |true=>
   rw[ht] at h
   cases hv:Px x tm with
   |agg cs=>
    rw[hv] at h hx
    simp only[bJ] at hx
    obtain⟨arr,e,hs⟩:=hx
    obtain⟨G',N,t1,q1,hl⟩:=OD hg hs ho h
    refine⟨G',N,_,arr.toList,t1,rfl, ?_,q1,by rw[hl,jQ hs]⟩
    simp only[valOf,ht,if_true]
    exact e
   |_=>rw[hv] at h;exact(au h).elim
  |false=>
   rw[ht] at h
   cases hv:Px x tm with
   |agg cs=>rw[hv] at h;exact(au h).elim
   |_=>rw[hv] at h hx;exact hgo _ hx ht h
 |cell y T=>
  simp only[aeK] at h
  have hx:=OI (P:=P) hT 0 (.tmp y)
  simp only[ev] at hx
  split at h
  ·rename_i r he
   rw[he] at hx
   replace h:=aj h;obtain⟨c,m2,l2,h2,h⟩:=h
   rw[uO] at h2
   cases h2
   cases hc:get r m with
   |none=>rw[hc] at h;exact(au h).elim
   |some c=>
    rw[hc] at h
    cases c with
    |arr _ _ _ _ _=>exact(au h).elim
    |dead=>exact(au h).elim
    |DJ _ _ _=>exact(au h).elim
    |box T' cs=>
     simp only at h
     replace h:=aj h;obtain⟨_,m2,l2,h2,h⟩:=h
     obtain⟨hck,rfl,rfl⟩:=eF h2
     simp only[Bool.and_eq_true,Bool.or_eq_true] at hck
     obtain⟨⟨hTt,hlen⟩,hok,hagg⟩:=hck
     have hTt:=Nat.eq_of_beq_eq_true hTt
     have hlen:=Nat.eq_of_beq_eq_true hlen
     subst hTt
     simp only[bJ,hc] at hx
     obtain⟨_,b,hμ,hg0⟩:=hx
     obtain⟨b',arr,e1,e2,e3,e4⟩:=hg.cell r _ hc (by rw[ho];simp)
     rw[hμ] at e1
     cases e1
     obtain⟨G',N,t1,q1,hl⟩:=OD hg e3 ho h
     have hal:=jQ e3
     obtain⟨g,hvg⟩:∃g,valOf P T arr.toList g:=by
      unfold valOf
      cases ha:Jk P T with
      |true=>exact⟨_,rfl⟩
      |false=>
       have h1:cs.length=1:=by
        rcases hagg with h1|h1
        ·rw[ha] at h1;cases h1
        ·exact Nat.eq_of_beq_eq_true h1
       cases hr:arr.toList with
       |nil=>rw[hr] at hal;simp[h1] at hal
       |cons g r=>
        cases r with
        |nil=>exact⟨g,rfl⟩
        |cons _ _=>rw[hr] at hal;simp[h1] at hal
     refine⟨G',N,g,arr.toList,t1, ?_,hvg,q1,by rw[hl,hal]⟩
     have hrun:=Jv (P:=P) (w:=w) (t:=T) (b:=b) (off:=0) (cs:=arr.toList) (g:=g) hok (by rw[hal,hlen]) (by
      intro j v hj
      have hH:w.heap[b]? =some (.cells arr T' (0,0)):=e2
      simp only[World.cell?,hH,Nat.zero_add]
      simpa using hj) hvg
     simp only[aeV]
     have hg0:a.tmps.getD y undef=.pointer (some ⟨b,0,none⟩):=hg0
     rw[hg0]
     simpa[Instr.loadAt,Instr.sureAddr,asAddr] using hrun
  ·exact(au h).elim
theorem abe{tm:jP}{a:Act}:∀{rs:List ResultVar} {ts:List TypeId} {m:Mem} {G:GS} (_:BL base U w m G) (_:G.out=[]) (_:VN G.μ m (Gh U w G) tm a) {rows:List Row} {m':Mem} {l l':Log}
  (_:(SE P tm rs ts).run m l=some (rows,m',l')),∃G' N gs,Jl base U w m G m' G' N∧(∀(i:Nat) x,rs[i]? =some x→∃g,gs[i]? =some g∧(aeV a.tmps x).run P w=.ok g w)∧rs.length=gs.length∧
   NS P (dR w) (Gh U w G') ts rows gs N
 |[],[],m,G,hg,ho,hT,rows,m',l,l',h=>by
  simp only[SE,run_pure,Option.some.injEq,Prod.mk.injEq] at h
  obtain⟨rfl,rfl,rfl⟩:=h
  exact⟨G,[],[],Jl.same hg,fun i x h=>by simp at h,rfl,rfl,rfl,rfl⟩
 |r::rs,t::ts,m,G,hg,ho,hT,rows,m',l,l',h=>by
  simp only[SE] at h
  replace h:=aj h;obtain⟨row,m1,l1,h1,h⟩:=h
  replace h:=aj h;obtain⟨rows',m2,l2,h2,h⟩:=h
  simp only[run_pure,Option.some.injEq,Prod.mk.injEq] at h
  obtain⟨rfl,rfl,rfl⟩:=h
  obtain⟨G1,N1,g,cs,t1,r1,v1,q1,e1⟩:=aoj hg ho hT h1
  obtain⟨G2,N2,gs,t2,r2,e2,q2⟩:=abe t1.ok (t1.out.trans ho) (fun t v hv=>⟨(hT t v hv).1,t1.le.bJ (hT t v hv).2⟩) h2
  refine⟨G2,N1++N2,g::gs,t1.trans t2, ?_,by simp[e2],row,rows',g,gs,cs,N1,N2,rfl,rfl,rfl,v1,PD t2.le.view q1,e1,q2⟩
  intro i x hx
  cases i with
  |zero=>
   simp only[List.getElem?_cons_zero,Option.some.injEq] at hx
   subst hx
   exact⟨g,rfl,r1⟩
  |succ i=>simpa using r2 i x (by simpa using hx)
 |[],_::_,_,_,_,_,_,_,_,_,_,h=>(au h).elim
 |_::_,[],_,_,_,_,_,_,_,_,_,h=>(au h).elim
theorem aok{μ μ':Nat→Value}{r:Nat}{c c' d:Cell}(hc:sameKind c c)(h:Gi μ μ' r c c')(k:sameKind c' d):μ' r=μ r∧sameKind c d:=by
 cases c<;>cases c'<;>cases d<;>simp only[sameKind,Gi] at hc h k⊢
 ·exact⟨h.2,h.1.symm.trans k⟩
 ·obtain⟨a1,a2,a3,a4⟩:=k
  obtain⟨b1,b2,b3⟩:=h
  obtain⟨c1,_,_,_⟩:=hc
  have:=b3 (c1.trans a1.symm)
  exact⟨this.1,c1,a2,b2.symm.trans a3,this.2.symm.trans a4⟩
 all_goals trivial
theorem adS{μ μ':Nat→Value}{m0 m1:Mem}(hle:EF μ m0 μ' m1):∀{rs:List Nat} {cs ds:List Cell},kinds m0 rs cs→kinds m1 rs ds→(∀c,c∈cs→sameKind c c)→(∀(i r:Nat) c,rs[i]? =some r→cs[i]? =some c→get r m0=some c)→rs.map μ'=rs.map μ∧am3 cs ds
 |[],cs,ds,h,k,_,_=>by
  simp only[kinds] at h k
  subst h;subst k
  exact⟨rfl,rfl⟩
 |r::rs,cs,ds,⟨c,c',cs',e1,h1,h2,h3⟩,⟨d,d',ds',e2,k1,k2,k3⟩,hs,hg=>by
  subst e1;subst e2
  have hc:=hg 0 r c' rfl rfl
  obtain⟨c2,q1,q2⟩:=hle r c' hc
  rw[k1] at q1
  cases q1
  obtain⟨p1,p2⟩:=aok (hs c' (by simp)) q2 k2
  obtain⟨r1,r2⟩:=adS hle h3 k3 (fun c hc=>hs c (by simp[hc])) (fun i r c hr hc=>hg (i+1) r c (by simpa using hr) (by simpa using hc))
  exact⟨by simp[p1,r1],d',ds',rfl,p2,r2⟩
theorem YQ{H:Heap}{h:View}:∀{cs:List Cell} {gs:List Value} {N:List Nat},cellsB H h cs gs N→∀c,c∈cs→sameKind c c
 |[],_,_,_,c,hc=>by simp at hc
 |c::cs,_,_,⟨g,gs',N1,N2,e,_,q1,q2⟩,d,hd=>by
  rcases List.mem_cons.1 hd with rfl|hd
  ·exact aa9 q1
  ·exact YQ q2 d hd
theorem apM{f:Nat}{fn:Func}{args:List V}{cells outs:List Cell}{gargs kD:List Value}{N1 N2:List Nat}{w':World}(hG:Given X base U w f args cells gargs kD N1 N2){S:St}{G:GS}{a:Act}{nt:Nat}
  (R:Rel base U (N1++N2) w (impμ kD) (qj 0 cells) nt w' S G a) {rows:List Row} (h:leave X fn cells.length S=some (rows,outs)):
  ∃gs M1 M2,(results fn a.tmps).run X.P w'=.ok (Zg gs) w'∧Did X.P U w w' (N1++N2) fn.resultTypes.toList cells outs kD rows gs M1 M2:=by
 simp only[leave] at h
 split at h
 ·rename_i r m' l' hr
  simp only[Option.some.injEq] at h
  subst h
  replace hr:=aj hr;obtain⟨aTK,m1,l1,h1,hr⟩:=hr
  replace hr:=aj hr;obtain⟨cs1,m2,l2,h2,hr⟩:=hr
  simp only[run_pure,Option.some.injEq,Prod.mk.injEq] at hr
  obtain⟨⟨rfl,rfl⟩,rfl,rfl⟩:=hr
  obtain⟨G1,Nr,gs,t1,r1,e1,q1⟩:=abe R.at_.ok R.at_.out R.tm h1
  have ho1:G1.out=[]:=t1.out.trans R.at_.out
  obtain⟨G2,Nc,t2,q2,kd2⟩:=Xw t1.ok (TR cells.length) (fun r hr=>⟨hr,by rw[ho1];simp⟩) (fun r hr=>by rw[ho1] at hr;simp at hr) h2
  have hE2:G2.E=Nr++Nc:=by rw[t2.E,t1.E,R.at_.E];rfl
  have hlen:=Om hG.cells
  have hk0:kinds (qj 0 cells) (rX cells.length) cells:=by
   rw[abb]
   exact XG (fun i=>by rw[Nat.zero_add];exact KN cells i) hG.cells
  obtain⟨b1,b2⟩:=adS (rC R.imp t1.le.mem) hk0 kd2 (YQ hG.cells) (by
   intro i r c hr hc
   have hi:i<cells.length:=(List.getElem?_eq_some_iff.1 hc).1
   rw[YN hi] at hr
   cases hr
   rw[KN];exact hc)
  have hv:(Gh U w' G2).le (view w' U (· ∈Nc++Nr)):=LJ (fun _ x=>x) (fun b hb=> .inl (by rw[hE2];simp only[List.mem_append] at hb⊢;exact hb.symm))
  refine⟨gs,Nc,Nr,YP r1 e1,R.at_.fr.keep, ?_, ?_,b2, ?_, ?_⟩
  ·have:=t2.ok.ndE
   rw[hE2] at this
   exact(List.perm_append_comm.nodup_iff).1 this
  ·intro b hb
   have hbE:b∈G2.E:=by rw[hE2];simp only[List.mem_append] at hb⊢;exact hb.symm
   exact⟨R.at_.fr.fr b (t1.le.ex b (t2.le.ex b (.inl hbE))),(t2.ok.lt b (.inl hbE)).1⟩
  ·rw[b1,←hlen,YO] at q2
   exact GN hv q2
  ·exact MJ (t2.le.view.trans' hv) (fun _ _=>rfl) q1
 ·cases h
theorem atp{K:jo}(hK:Sound X K){f:FuncId}{fn:Func}{args:List V}{cells:List Cell}{rows:List Row}{outs:List Cell}(hf:X.P.funcs[f]? =some fn)(h:body X K f args cells=some (rows,outs))
  {gargs kD:List Value} {N1 N2:List Nat} (hG:Given X base U w f args cells gargs kD N1 N2):
  Calls X.P f gargs.toArray w fun e w'=>∃gs M1 M2,e=.returned (Zg gs)∧Did X.P U w w' (N1++N2) fn.resultTypes.toList cells outs kD rows gs M1 M2:=by
 simp only[body,hf] at h
 cases hb:fn.body with
 |none=>simp[hb] at h
 |some c=>
  simp only[hb] at h
  cases hn:(Nat.ble cells.length lD && Nat.ble args.length fn.ntmps) with
  |false=>simp[hn] at h
  |true=>
   simp only[hn,Bool.not_true,cond_false] at h
   simp only[Bool.and_eq_true] at hn
   have hn1:=Nat.le_of_ble_eq_true hn.1
   have hn2:=Nat.le_of_ble_eq_true hn.2
   split at h
   ·rename_i tm m' l' he
    obtain⟨G,R⟩:=apL hG he hn2
    have hM:∀r c,get r (qj 0 cells)=some c→Jr r=true:=by
     intro r c hr
     obtain⟨i,e,hi⟩:=Lj hr
     have hil:i<cells.length:=(List.getElem?_eq_some_iff.1 hi).1
     subst e
     simp only[Jr,Bool.and_eq_true]
     exact⟨Nat.ble_eq_true_of_le (by omega),by rw[Nat.blt_eq];omega⟩
    have hnt:DN X.P f=fn.ntmps:=by simp[DN,hf]
    have az0:=aoh (base:=base) (U:=U) (M0:=N1++N2) (w0:=w) (ν:=impμ kD) ⟨hK,hG.gl⟩ hnt hM
    have hfin:∀ex S,leave X fn cells.length S=some (rows,outs)→(ex=Ex.normal∨ex=Ex.ret)→∀w' G' a',Rel base U (N1++N2) w (impμ kD) (qj 0 cells) fn.ntmps w' S G' a'→(Gh U w G).le (Gh U w' G')→
      bodyPost X.P fn (fun e w'=>∃gs M1 M2,e=.returned (Zg gs)∧Did X.P U w w' (N1++N2) fn.resultTypes.toList cells outs kD rows gs M1 M2) (avL ex) a' w':=by
     intro ex S hl hex w' G' a' R' _
     obtain⟨gs,M1,M2,hr,hd⟩:=apM hG R' hl
     rcases hex with rfl|rfl<;>exact⟨R'.defers,_,hr,gs,M1,M2,rfl,hd⟩
    split at h
    ·rename_i S hd
     exact calls_of_wp hf hb (apI az0 c R hd (hfin _ _ h (.inl rfl)))
    ·rename_i S hd
     exact calls_of_wp hf hb (apI az0 c R hd (hfin _ _ h (.inr rfl)))
    ·cases h
   ·cases h
end
def aeW(X:Ctx):Prop:=∀(f:FuncId) (p:List V→List Cell→Option (List Row×List Cell)) (fn:Func) (args:List V) (cells:List Cell) (rows:List Row) (outs:List Cell),X.Vt f=some p→X.P.funcs[f]? =some fn→fn.body.isSome=true→p args cells=some (rows,outs)→
 ∀(base:Nat) (U:Nat→Prop) (w:World) (gargs kD:List Value) (N1 N2:List Nat),Given X base U w f args cells gargs kD N1 N2→
  Calls X.P f gargs.toArray w fun e w'=>∃gs M1 M2,e=.returned (Zg gs)∧Did X.P U w w' (N1++N2) fn.resultTypes.toList cells outs kD rows gs M1 M2
theorem agf{X:Ctx}(hp:aeW X):∀n,Sound X (QL X n)
 |0=>by
  intro f fn args cells rows outs hf hb h
  simp[QL] at h
 |n+1=>by
  intro f fn args cells rows outs hf hb h base U w gargs kD N1 N2 hG
  simp only[QL] at h
  cases hx:X.Vt f with
  |some p=>
   rw[hx] at h
   exact hp f p fn args cells rows outs hx hf hb h base U w gargs kD N1 N2 hG
  |none=>
   rw[hx] at h
   exact atp (agf hp n) hf h hG
theorem atq{X:Ctx}(hp:aeW X):Sound X (call X):=by
 intro f fn args cells rows outs hf hb h base U w gargs kD N1 N2 hG
 obtain⟨n,hn⟩:=OX h
 exact agf hp n f fn args cells rows outs hf hb hn base U w gargs kD N1 N2 hG
end Go.Vm
