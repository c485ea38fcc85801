import Derived.RangeFuncBox
import Derived.RangeFuncLeaves
import Derived.RangeFuncNested
import Derived.Shelf.Abstract
import Derived.Shelf.RegionOpen
import Derived.WalkKit
import Derived.OwnWalkIn
import Derived.TacticsInMore
import Derived.LoopNIn
import Derived.LoopIn
import Derived.Test.YtoaeipkhadpbiaaGreatDoorProg
import Derived.Test.YtoaeipkhadpbiaaGreatDoorVm4
import Derived.Lib.Bytealg
set_option linter.defProp false
namespace Go.Proofs.YtoaeipkhadpbiaaGreatDoor
set_option linter.unusedVariables false
set_option linter.unusedSimpArgs false
open Go Go.Proofs Go.RowKit Go.Shelf
attribute [local go_sem] Oper.semAt_some
def KpB(n₀ Bs:Nat)(W W':World):Prop:=Below n₀ W W'/\∀v,W.cell? ⟨Bs,0,none⟩=some v->W'.cell? ⟨Bs,0,none⟩=some v
def KpB.refl(n₀ Bs:Nat)(W:World):KpB n₀ Bs W W:=⟨Below.refl _ _,λ_ h=>h⟩
def KpB.trans{n₀ Bs:Nat}{A B C:World}(h:KpB n₀ Bs A B)(k:KpB n₀ Bs B C):KpB n₀ Bs A C:=⟨h.1.trans k.1,λv hv=>k.2 v (h.2 v hv)⟩
def apY(n₀:Nat)(W:World)(sv:Value)(zs:List Int):Prop:=
 ∃a cap,sv=.slice a zs.length cap/\(zs≠[]->∃b off,a=some ⟨b,off,none⟩/\b<n₀/\∀j,j<zs.length->W.cell? ⟨b,off+j,none⟩=some (.int .i64 (zs[j]?.getD 0)))
def apY.below{n₀:Nat}{A B:World}(h:Below n₀ A B){sv:Value}{zs:List Int}(q:apY n₀ A sv zs):apY n₀ B sv zs:=by obtain⟨a,cap,e,q⟩:=q;refine⟨a,cap,e,λhz=> ?_⟩;obtain⟨b,off,e2,hb,hc⟩:=q hz;exact⟨b,off,e2,hb,λj hj=>(h.cell (p:=⟨b,off+j,none⟩) hb).trans (hc j hj)⟩
def KpB.keeps{n₀ Bs:Nat}(W:World)(l:Nat)(o o':Obj)(hl:n₀<=l)(h:W.heap[l]? =some o)(h1:o.isCells=false)(h2:o.isWalk=false):KpB n₀ Bs W (W.putObj l o'):=by
 refine⟨(Below.refl n₀ W).trans ⟨rfl,rfl,rfl, ?_, ?_⟩, ?_⟩
 ·simp[World.putObj]
 ·intro k hk;exact World.putObj_heap_other (by omega)
 ·intro v hv
  by_cases hb:Bs=l
  ·subst hb;unfold World.cell? at hv;simp only[h] at hv;cases o<;>simp_all [Obj.isCells]
  ·rw[<-hv];exact World.cell?_of_block (World.putObj_heap_other hb)
end Go.Proofs.YtoaeipkhadpbiaaGreatDoor
namespace Go.Proofs.YtoaeipkhadpbiaaGreatDoor
set_option linter.unusedVariables false
set_option linter.unusedSimpArgs false
open Go.Vm (mF kR Jq)
open Go Go.Proofs Go.RowKit Go.Shelf
attribute [local go_sem] Oper.semAt_some
structure Nk where
 kind:Int
 op:Int
 text:ByteArray
 other:ByteArray
 kids:List Int
def adX(st:List Int):Prop:=∀(j:Nat) x,st[j]? =some x->0<=x/\x<=j
def adY{st:List Int}(h:adX st)(j:Nat):0<=st[j]?.getD 0/\st[j]?.getD 0<=j:=by
 cases hj:st[j]? with
 |none=>simp
 |some x=>exact h j x hj
def Ub{st:List Int}(h:adX st):∀(ks:List Int) (a r:Int), -1<=a->a<st.length->mF st ks a=some r-> -1<=r/\r<st.length
 |[],a,r,h1,h2,e=>by rw[mF] at e;cases e;exact⟨h1,h2⟩
 |k::ks,a,r,h1,h2,e=>by
  rw[mF] at e;split at e
  ·cases e
  ·rename_i hc;have hk:=adY h k.toNat;exact Ub h ks _ r (by omega) (by omega) e
def ac2:∀(l:List (List Int)) (st r:List Int),kR st l=some r->r.length=st.length+l.length
 |[],st,r,h=>by rw[kR] at h;cases h;rfl
 |n::l,st,r,h=>by
  rw[kR] at h;split at h
  ·cases h
  ·have:=ac2 l _ r h;simp at this|-;omega
def aar{st:List Int}(h:adX st){a:Int}(h1: -1<=a)(h2:a<st.length):adX (st++[a+1]):=by
 intro j x hj;rw[List.getElem?_append] at hj;split at hj
 ·exact h j x hj
 ·rename_i hn;have:j - st.length=0:=by
   cases hd:j - st.length with
   |zero=>rfl
   |succ d=>rw[hd] at hj;simp at hj
  rw[this] at hj;simp at hj;omega
def aky:∀(l:List (List Int)) (st r:List Int),adX st->kR st l=some r->adX r
 |[],st,r,h0,h=>by rw[kR] at h;cases h;exact h0
 |n::l,st,r,h0,h=>by
  rw[kR] at h;split at h
  ·cases h
  ·rename_i a ha;have:=Ub h0 _ _ _ (by omega) (by omega) ha;exact aky l _ r (aar h0 this.1 this.2) h
def adZ:adX []:=λj x h=>by simp at h
def Vr(W:World)(a:Addr)(u:Value):W.grownBy (W.setCell a u) (some a.block):=
 ⟨rfl,rfl,rfl,by simp[World.setCell],λk _ hk=>Below.heap_setCell _ _ _ k (λe=>hk (by rw[e]))⟩
def af0(len:Nat)(st:List Int):Array Value:=(st.map (Value.int .i64)++List.replicate (len - st.length) (Value.int .i64 0)).toArray
def ahY{len:Nat}{st:List Int}(h:st.length<=len):(af0 len st).size=len:=by simp[af0];omega
def akz{len:Nat}{st:List Int}{j:Nat}(h:j<len):(af0 len st)[j]? =some (.int .i64 (st[j]?.getD 0)):=by
 simp only[af0,List.getElem?_toArray];rw[List.getElem?_append];split
 ·rename_i hj;simp at hj;simp[hj]
 ·rename_i hj;simp at hj;rw[List.getElem?_replicate,if_pos (by simp;omega),List.getElem?_eq_none (by omega)];rfl
def atm{len:Nat}{st:List Int}(h:st.length<len)(x:Int):(af0 len st).setIfInBounds st.length (.int .i64 x)=af0 len (st++[x]):=by
 apply Array.ext
 ·simp[af0];omega
 ·intro j h1 h2;apply Option.some.inj;rw[<-Array.getElem?_eq_getElem,<-Array.getElem?_eq_getElem];have hj:j<len:=by rw[Array.size_setIfInBounds,ahY (by omega)] at h1;exact h1
  rw[akz hj,Array.getElem?_setIfInBounds];split
  ·rename_i e;subst e;rw[if_pos (by rw[ahY (by omega)];exact h)];simp
  ·rename_i e;rw[akz hj,List.getElem?_append];split
   ·rfl
   ·rw[List.getElem?_eq_none (by omega),List.getElem?_eq_none (by simp;omega)]
structure P5(w:World)(len:Nat)(st:List Int)(W:World):Prop where
 b0:Boxed W w.heap.size 55 (.slice none 0 0)
 b1:Boxed W (w.heap.size+1) 4 (.bool false)
 b2:W.heap[w.heap.size+2]? =some (.cells (af0 len st) 3 (0,0))
 b3:Boxed W (w.heap.size+3) 55 (.slice (some ⟨w.heap.size+2,0,none⟩) len len)
 bel:Below w.heap.size w W
def P5.grown{w:World}{len:Nat}{st:List Int}{A B:World}(h:P5 w len st A){row:Option Nat}(hg:A.grownBy B row)(hr:∀r,row=some r->w.heap.size+3<r):P5 w len st B:=by
 have ne:∀k,k<=w.heap.size+3->some k≠row:=λk hk e=>by have:=hr k e.symm;omega
 refine⟨h.b0.kept hg (ne _ (by omega)),h.b1.kept hg (ne _ (by omega)), ?_,h.b3.kept hg (ne _ (by omega)),h.bel.grown hg h.bel.size λk e=>by have:=hr k e;omega⟩;rw[hg.block _ (Array.getElem?_eq_some_iff.1 h.b2).1 (ne _ (by omega))];exact h.b2
def P5.alloc{w:World}{len:Nat}{st:List Int}{A:World}(h:P5 w len st A)(o:Obj):P5 w len st (A.alloc o):=h.grown (World.grownBy_alloc A o none) (λr e=>by cases e)
def P5.size{w:World}{len:Nat}{st:List Int}{A:World}(h:P5 w len st A):w.heap.size+3<A.heap.size:=h.b3.lt
def P5.set{w:World}{len:Nat}{st:List Int}{A:World}(h:P5 w len st A){b:Nat}(hb:w.heap.size+3<b)(u:Value):P5 w len st (A.setCell ⟨b,0,none⟩ u):=h.grown (Vr A _ u) (λr e=>by cases e;exact hb)
def P5.fail{w:World}{len:Nat}{st:List Int}{A:World}(h:P5 w len st A):P5 w len st ((A.setCell ⟨w.heap.size,0,none⟩ (.slice none 0 0)).setCell ⟨w.heap.size+1,0,none⟩ (.bool false)):=by refine⟨(h.b0.set _).other (by omega) _,(h.b1.other (by omega) _).set _, ?_,(h.b3.other (by omega) _).other (by omega) _,(h.bel.setCell (p:=⟨w.heap.size,0,none⟩) (Nat.le_refl _) _).setCell (p:=⟨w.heap.size+1,0,none⟩) (Nat.le_succ _) _⟩;rw[Below.heap_setCell _ _ _ _ (by simp),Below.heap_setCell _ _ _ _ (by simp)];exact h.b2
def P5.push{w:World}{len:Nat}{st:List Int}{A:World}(h:P5 w len st A)(hl:st.length<len)(x:Int):P5 w len (st++[x]) (A.setCell ⟨w.heap.size+2,st.length,none⟩ (.int .i64 x)):=by
 have hg:=Vr A ⟨w.heap.size+2,st.length,none⟩ (.int .i64 x);have ne:∀k,k≠w.heap.size+2->some k≠some (w.heap.size+2):=λk hk e=>hk (Option.some.inj e)
 refine⟨h.b0.kept hg (ne _ (by omega)),h.b1.kept hg (ne _ (by omega)), ?_,h.b3.kept hg (ne _ (by omega)),h.bel.setCell (p:=⟨w.heap.size+2,st.length,none⟩) (Nat.le_add_right _ _) _⟩;obtain⟨hlt,hk⟩:=Array.getElem?_eq_some_iff.1 h.b2;show(A.heap.modify (w.heap.size+2) _)[w.heap.size+2]? =_;rw[Array.getElem?_eq_getElem (by rw[Array.size_modify];exact hlt),Array.getElem_modify_self,hk];show some (Obj.cells (if(none:Option _).isSome then _ else _) _ _)=_;rw[if_neg (by simp),atm hl]
structure Marks(n:Nat)(ms:List Nat)(W:World):Prop where
 nd:ms.Nodup
 at_:∀D,D∈ms->n+3<D/\W.heap[D]? =some (.deferred (some []))
def Marks.grown{n:Nat}{ms:List Nat}{A B:World}(h:Marks n ms A){row:Option Nat}(hg:A.grownBy B row)(hr:∀r,row=some r->r ∉ ms):Marks n ms B:=by refine⟨h.nd,λD hD=>⟨(h.at_ D hD).1, ?_⟩⟩;rw[hg.block D (Array.getElem?_eq_some_iff.1 (h.at_ D hD).2).1 (λe=>hr D e.symm hD)];exact(h.at_ D hD).2
def Marks.lt{n:Nat}{ms:List Nat}{A:World}(h:Marks n ms A):∀D,D∈ms->D<A.heap.size:=λD hD=>(Array.getElem?_eq_some_iff.1 (h.at_ D hD).2).1
def Marks.alloc{n:Nat}{ms:List Nat}{A:World}(h:Marks n ms A)(o:Obj):Marks n ms (A.alloc o):=h.grown (World.grownBy_alloc A o none) (λr e=>by cases e)
def Marks.set{n:Nat}{ms:List Nat}{A:World}(h:Marks n ms A)(a:Addr)(u:Value){c:Array Value}{t:TypeId}{f:Nat×Nat}(ha:A.heap[a.block]? =some (.cells c t f)):Marks n ms (A.setCell a u):=
 h.grown (Vr A a u) (λr e hr=>by cases e;have:=(h.at_ _ hr).2;rw[ha] at this;cases this)
end Go.Proofs.YtoaeipkhadpbiaaGreatDoor
namespace Go.Proofs.YtoaeipkhadpbiaaGreatDoor
set_option linter.unusedVariables false
set_option linter.unusedSimpArgs false
open Go.Vm (mF kR Jq)
open Go Go.Proofs Go.RowKit Go.Shelf
attribute [local go_sem] Oper.semAt_some
def Marks.fail{w:World}{len:Nat}{st:List Int}{ms:List Nat}{A:World}(hB:P5 w len st A)(h:Marks w.heap.size ms A):Marks w.heap.size ms ((A.setCell ⟨w.heap.size,0,none⟩ (.slice none 0 0)).setCell ⟨w.heap.size+1,0,none⟩ (.bool false)):=
 (h.set ⟨w.heap.size,0,none⟩ _ hB.b0).set ⟨w.heap.size+1,0,none⟩ _ (hB.b1.other (by omega) _)
end Go.Proofs.YtoaeipkhadpbiaaGreatDoor
namespace Go.Proofs.YtoaeipkhadpbiaaGreatDoor
set_option linter.unusedVariables false
set_option linter.unusedSimpArgs false
open Go.Vm (mF kR Jq)
open Go Go.Vm Go.Proofs Go.RowKit
def TN{h:View}{s:Nat}:∀{rs:ay} {b o i:Nat} {r:Row},rG h s rs b o->rs[i]? =some r->r.length=s/\Dy h r b (o+i * s)
 |[],b,o,i,r,q,hi=>by simp at hi
 |r'::rs,b,o,i,r,q,hi=>by
  simp only[rG] at q;cases i with
  |zero=>simp only[List.getElem?_cons_zero,iF] at hi;subst hi;simp only[Nat.zero_mul,Nat.add_zero];exact⟨q.1,q.2.1⟩
  |succ i=>simp only[List.getElem?_cons_succ] at hi;obtain⟨h1,h2⟩:=TN q.2.2 hi;refine⟨h1, ?_⟩;rw[show o+(i+1) * s=o+s+i * s by rw[Nat.succ_mul];omega];exact h2
end Go.Proofs.YtoaeipkhadpbiaaGreatDoor
namespace Go.Proofs.YtoaeipkhadpbiaaGreatDoor
set_option linter.unusedVariables false
set_option linter.unusedSimpArgs false
open Go Go.Vm
def Gn:Row:=[.str [66,69,71,73,78],.str [69,78,68],.str [102,117,110,99,116,105,111,110],.str [105,102],.str [101,108,115,101],.str [119,104,105,108,101],.str [102,111,114],.str [100,111],.str [98,114,101,97,107],.str [99,111,110,116,105,110,117,101],.str [110,101,120,116],.str [101,120,105,116],.str [114,101,116,117,114,110],.str [100,101,108,101,116,101],.str [105,110],.str [112,114,105,110,116],.str [112,114,105,110,116,102]]
def Uc:Row:=[.str [123],.str [125],.str [40],.str [41],.str [91],.str [93],.str [44],.str [59],.str [43,61],.str [45,61],.str [42,61],.str [47,61],.str [37,61],.str [94,61],.str [124,124],.str [38,38],.str [33,126],.str [61,61],.str [60,61],.str [62,61],.str [33,61],.str [43,43],.str [45,45],.str [62,62],.str [61],.str [43],.str [45],.str [42],.str [47],.str [37],.str [94],.str [33],.str [62],.str [60],.str [124],.str [63],.str [58],.str [126],.str [36]]
def NW:Row:=[.str [97,116,97,110,50],.str [99,108,111,115,101],.str [99,111,115],.str [101,120,112],.str [103,115,117,98],.str [105,110,100,101,120],.str [105,110,116],.str [108,101,110,103,116,104],.str [108,111,103],.str [109,97,116,99,104],.str [114,97,110,100],.str [115,105,110],.str [115,112,108,105,116],.str [115,112,114,105,110,116,102],.str [115,113,114,116],.str [115,114,97,110,100],.str [115,117,98],.str [115,117,98,115,116,114],.str [115,121,115,116,101,109],.str [116,111,108,111,119,101,114],.str [116,111,117,112,112,101,114]]
def M.strings_Contains(s t:aJ):Option Bool:=match t with
 |[c]=>some (decide (0<=Lib.indexByte s c))
 |_=>none
def Prim.strings_Contains(a:List V)(c:List Cell):Option (ay×List Cell):=match a,c with
 |[.d (.str s),.d (.str t)],[]=>(M.strings_Contains s t).map λr=>([[.bool r]],[])
 |_,_=>none
def M.strings_IndexByte(s:aJ)(c:Int):Option Int:=some (Lib.indexByte s (UInt8.ofNat c.toNat))
def Prim.strings_IndexByte(a:List V)(c:List Cell):Option (ay×List Cell):=match a,c with
 |[.d (.str s),.d (.int .u8 b)],[]=>(M.strings_IndexByte s b).map λr=>([[.int .i64 r]],[])
 |_,_=>none
end Go.Proofs.YtoaeipkhadpbiaaGreatDoor
