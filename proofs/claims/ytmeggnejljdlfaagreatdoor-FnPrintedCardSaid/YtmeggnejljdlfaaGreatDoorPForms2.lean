import Derived.RangeFuncBox
import Derived.RangeFuncLeaves
import Derived.RangeFuncNested
import Derived.Shelf.Abstract
import Derived.Shelf.RegionOpen
import Derived.WalkKit
import Derived.OwnWalkIn
import Derived.TacticsInMore
import Derived.LoopNIn
import Derived.LoopIn
import Derived.Test.YtmeggnejljdlfaaGreatDoorProg
import Derived.Test.YtmeggnejljdlfaaGreatDoorVm4
import Derived.Lib.Bytealg
import Derived.Lib.SplitLaws
set_option linter.defProp false
set_option linter.unusedVariables false
set_option linter.unusedSimpArgs false
open Go.IntKind (i64)
namespace Go.Proofs.YtmeggnejljdlfaaGreatDoor
open Go Go.Proofs Go.RowKit Go.Shelf
attribute [local go_sem] Oper.semAt_some
def awe(zs:List Int)(j:Nat):Int×Int:=((j:Int),zs[j]?.getD 0)
def bk(zs:List Int)(k:Nat):List (Int×Int):=(List.range k).map λt=>awe zs (zs.length - 1 - t)
def aCD(zs:List Int)(k:Nat):bk zs (k+1)=bk zs k++[awe zs (zs.length - 1 - k)]:=by simp[bk,List.range_succ]
def awf(zs:List Int)(k:Nat):(bk zs k).length=k:=by simp[bk]
def KpB(n₀ Bs:Nat)(W W':World):Prop:=Below n₀ W W'/\∀v,W.cell? ⟨Bs,0,none⟩=some v->W'.cell? ⟨Bs,0,none⟩=some v
def KpB.refl(n₀ Bs:Nat)(W:World):KpB n₀ Bs W W:=⟨Below.refl _ _,λ_ h=>h⟩
def KpB.trans{n₀ Bs:Nat}{A B C:World}(h:KpB n₀ Bs A B)(k:KpB n₀ Bs B C):KpB n₀ Bs A C:=⟨h.1.trans k.1,λv hv=>k.2 v (h.2 v hv)⟩
set_option maxRecDepth 100000 in
set_option maxHeartbeats 4000000 in
def ax8(F:Fence)(n:Nat)(h7:F.fn 198)(hro:F.round=none)(hn:1<=n)(l Bs n₀ b off cap:Nat)(zs:List Int)(hreach:zs.length * 8<=140737488351232)(hb:b<n₀)(J Jx:List (Int×Int)->World->Prop)
  (hY:∀pre x W,J pre W->pre.length<zs.length->YieldAt F (n - 1) Tryz.prog l #[.int .i64 x.1,.int .i64 x.2] W λe W'=>(e=.returned (.bool true)/\J (pre++[x]) W'/\KpB n₀ Bs W W')\/(e=.returned (.bool false)/\Jx (pre++[x]) W'))
  (W:World) (hBs:W.cell? ⟨Bs,0,none⟩=some (.slice (some ⟨b,off,none⟩) zs.length cap)) (hc:∀j,j<zs.length->W.cell? ⟨b,off+j,none⟩=some (.int .i64 (zs[j]?.getD 0))) (h0:J [] W):
  CallsIn F n Tryz.prog 198 #[.func (.yield l) #[] #[],.pointer (some ⟨Bs,0,none⟩)] W λe W'=>(∃v,e=.returned v)/\
   ((∃ys,ys=bk zs zs.length/\J ys W')\/(∃pre,(∃k,k<=zs.length/\pre=bk zs k)/\Jx pre W')):=by
 refine callsIn_of_wp Tryz.func198 rfl h7 ?_ hro;simp only[Tryz.ntmps198,List.size_toArray,List.length_cons,List.length_nil,Nat.reduceAdd,Nat.reduceSub,Array.replicate_succ,Array.replicate_zero,List.push_toArray,List.append_toArray,List.nil_append,List.cons_append]
 gi_wp2
 gi_loopw [3] (λi wr=>∃m k:Nat,k+m=zs.length/\i=.int .i64 ((m:Int) - 1)/\J (bk zs k) wr/\KpB n₀ Bs W wr)
  (λi _=>(intOf i+1).toNat)
 case atStart=>exact⟨zs.length,0,by omega,rfl,h0,KpB.refl _ _ _⟩
 case round=>
  obtain⟨m,k,hk,rfl,hJs,hnx⟩:=hrel;have a8A:=hnx.2 _ hBs;cases m with
  |zero=>
   obtain rfl:k=zs.length:=by omega
   gi_wp2
   go_end0
   exact⟨⟨_,rfl⟩,.inl ⟨_,rfl,hJs⟩⟩
  |succ j=>
   have hj:j<zs.length:=by omega
   have e1:(((j+1:Nat):Int) - 1)=(j:Int):=by omega
   simp only[e1];have hcx:wr.cell? ⟨b,off+j,none⟩=some (.int .i64 (zs[j]?.getD 0)):=(hnx.1.cell (p:=⟨b,off+j,none⟩) hb).trans (hc j hj);obtain⟨fn,tmps,assign,body,hy,hR⟩:=hY _ (awe zs j) wr hJs (by rw[awf];omega);dsimp only[awe] at hy;have ek:bk zs k++[awe zs j]=bk zs (k+1):=by rw[aCD];rw[show zs.length - 1 - k=j by omega]
   rw[ek] at hR;clear ek hY;generalize zs[j]?.getD 0=z at hy hcx
   gi_wp2
   refine hR.mono ?_;rintro e W3 (⟨rfl,hJ3,hk3⟩|⟨rfl,hJx3⟩)
   ·gi_wp2
    go_roundw
    case rel=>exact⟨j,k+1,by omega,rfl,hJ3,hnx.trans hk3⟩
    case measure=>simp[intOf]
   ·gi_wp2
    refine bodyPost_ret (results_none rfl _ _ _) rfl ?_;exact⟨⟨_,rfl⟩,.inr ⟨_,⟨k+1,by omega,rfl⟩,hJx3⟩⟩
set_option maxRecDepth 100000 in
set_option maxHeartbeats 1000000 in
def an5(F:Fence)(n:Nat)(h7:F.fn 198)(hro:F.round=none)(l Bs cap:Nat)(a:Option Addr)(J:List (Int×Int)->World->Prop)(W:World)(hBs:W.cell? ⟨Bs,0,none⟩=some (.slice a 0 cap))(h0:J [] W):
  CallsIn F n Tryz.prog 198 #[.func (.yield l) #[] #[],.pointer (some ⟨Bs,0,none⟩)] W λe W'=>(∃v,e=.returned v)/\J [] W':=by
 refine callsIn_of_wp Tryz.func198 rfl h7 ?_ hro;simp only[Tryz.ntmps198,List.size_toArray,List.length_cons,List.length_nil,Nat.reduceAdd,Nat.reduceSub,Array.replicate_succ,Array.replicate_zero,List.push_toArray,List.append_toArray,List.nil_append,List.cons_append]
 gi_wp2
 gi_loopw [3] (λi wr=>i=.int .i64 (-1)/\J [] wr) (λ_ _=>0)
 case atStart=>exact⟨rfl,h0⟩
 case round=>
  obtain⟨rfl,hJs⟩:=hrel
  gi_wp2
  go_end0
  exact⟨⟨_,rfl⟩,hJs⟩
set_option maxHeartbeats 1000000 in
def aCE(F:Fence)(n:Nat)(h5:F.fn 164)(hro:F.round=none)(a:Option Addr)(len cap:Nat)(w:World):
  CallsIn F n Tryz.prog 164 #[.slice a len cap] w λe w'=>e=.returned (.func (.func 198) #[] #[.pointer (some ⟨w.heap.size,0,none⟩)])/\w'=w.alloc (.cells #[.slice a len cap] 32):=by
 refine callsIn_of_wp Tryz.func164 rfl h5 ?_ hro;simp only[Tryz.ntmps164,List.size_toArray,List.length_cons,List.length_nil,Nat.reduceAdd,Nat.reduceSub,Array.replicate_succ,Array.replicate_zero,List.push_toArray,List.append_toArray,List.nil_append,List.cons_append]
 gi_wp2
 go_ret
 exact⟨rfl,rfl⟩
def acp(n₀:Nat)(W:World)(sv:Value)(zs:List Int):Prop:=
 ∃a cap,sv=.slice a zs.length cap/\(zs≠[]->∃b off,a=some ⟨b,off,none⟩/\b<n₀/\∀j,j<zs.length->W.cell? ⟨b,off+j,none⟩=some (.int .i64 (zs[j]?.getD 0)))
def acp.below{n₀:Nat}{A B:World}(h:Below n₀ A B){sv:Value}{zs:List Int}(q:acp n₀ A sv zs):acp n₀ B sv zs:=by obtain⟨a,cap,e,q⟩:=q;refine⟨a,cap,e,λhz=> ?_⟩;obtain⟨b,off,e2,hb,hc⟩:=q hz;exact⟨b,off,e2,hb,λj hj=>(h.cell (p:=⟨b,off+j,none⟩) hb).trans (hc j hj)⟩
def asV(F:Fence)(n:Nat)(h7:F.fn 198)(hro:F.round=none)(hn:1<=n)(Bs n₀:Nat)(sv:Value)(zs:List Int)(hreach:zs.length * 8<=140737488351232)(w:World)(hBs:Bs<w.heap.size)(hn₀:n₀<=w.heap.size)
  (hc:w.cell? ⟨Bs,0,none⟩=some sv) (hI:acp n₀ w sv zs):
  SeqStopsK F n Tryz.prog 198 #[.pointer (some ⟨Bs,0,none⟩)] (λx:Int×Int=>#[Value.int .i64 x.1,Value.int .i64 x.2]) (KpB n₀ Bs) (λys=>ys=bk zs zs.length)
   (λpre=>∃k,k<=zs.length/\pre=bk zs k) zs.length w:=λl J Jx W hW _ _ hY h0=>by
 have hc':=(hW.cell (p:=⟨Bs,0,none⟩) hBs).trans hc;obtain⟨a,cap,rfl,q⟩:=hI.below (hW.mono hn₀)
 by_cases hz:zs=[]
 ·subst hz;exact(an5 F n h7 hro l Bs cap a J W hc' h0).mono λe W' ⟨he,hj⟩=>⟨he,.inl ⟨_,rfl,hj⟩⟩
 ·obtain⟨b,off,rfl,hb,hcs⟩:=q hz;exact ax8 F n h7 hro hn l Bs n₀ b off cap zs hreach hb J Jx hY W hc' hcs h0
def KpB.keeps{n₀ Bs:Nat}(W:World)(l:Nat)(o o':Obj)(hl:n₀<=l)(h:W.heap[l]? =some o)(h1:o.isCells=false)(h2:o.isWalk=false):KpB n₀ Bs W (W.putObj l o'):=by
 refine⟨(Below.refl n₀ W).trans ⟨rfl,rfl,rfl, ?_, ?_⟩, ?_⟩
 ·simp[World.putObj]
 ·intro k hk;exact World.putObj_heap_other (by omega)
 ·intro v hv
  by_cases hb:Bs=l
  ·subst hb;unfold World.cell? at hv;simp only[h] at hv;cases o<;>simp_all [Obj.isCells]
  ·rw[<-hv];exact World.cell?_of_block (World.putObj_heap_other hb)
end Go.Proofs.YtmeggnejljdlfaaGreatDoor
namespace Go.Proofs.YtmeggnejljdlfaaGreatDoor
open Go.Vm (dV fZ qW)
open Go Go.Proofs Go.RowKit Go.Shelf
attribute [local go_sem] Oper.semAt_some
structure Nk where
 kind:Int
 op:Int
 text:ByteArray
 other:ByteArray
 kids:List Int
def ax9(n₀:Nat)(W:World)(b o:Nat)(n:Nk):Prop:=
 ∃sv,W.cell? ⟨b,o,none⟩=some (.int .i64 n.kind)/\W.cell? ⟨b,o+1,none⟩=some (.int .i64 n.op)/\W.cell? ⟨b,o+2,none⟩=some (.string n.text)/\W.cell? ⟨b,o+3,none⟩=some (.string n.other)/\W.cell? ⟨b,o+4,none⟩=some sv/\acp n₀ W sv n.kids
def aus(n₀:Nat)(W:World)(sv:Value)(l:List Nk):Prop:=
 ∃a cap,sv=.slice a l.length cap/\(l≠[]->∃b off,a=some ⟨b,off,none⟩/\b<n₀/\∀i n,l[i]? =some n->ax9 n₀ W b (off+i * 5) n)
def amf(F:Fence)(n:Nat)(h5:F.fn 48)(hro:F.round=none)(x lo hi:Int)(w:World):
  CallsIn F n Tryz.prog 48 #[.int .i64 x,.int .i64 lo,.int .i64 hi] w λe w'=>e=.returned (.bool (decide (lo<=x) && decide (x<=hi)))/\w'=w:=by
 refine callsIn_of_wp Tryz.func48 rfl h5 ?_ hro;simp only[Tryz.ntmps48,List.size_toArray,List.length_cons,List.length_nil,Nat.reduceAdd,Nat.reduceSub,Array.replicate_succ,Array.replicate_zero,List.push_toArray,List.append_toArray,List.nil_append,List.cons_append]
 gi_wp2
 all_goals go_ret
 all_goals refine⟨?_,rfl⟩
 ·rename_i h;rw[decide_eq_true h,Bool.true_and];rfl
 ·rename_i h;rw[decide_eq_false (by omega),Bool.false_and];rfl
def Zr(st:List Int):Prop:=∀(j:Nat) x,st[j]? =some x->0<=x/\x<=j
def Qk{st:List Int}(h:Zr st)(j:Nat):0<=st[j]?.getD 0/\st[j]?.getD 0<=j:=by
 cases hj:st[j]? with
 |none=>simp
 |some x=>exact h j x hj
def DU{st:List Int}(h:Zr st):∀(ks:List Int) (a r:Int), -1<=a->a<st.length->dV st ks a=some r-> -1<=r/\r<st.length
 |[],a,r,h1,h2,e=>by rw[dV] at e;cases e;exact⟨h1,h2⟩
 |k::ks,a,r,h1,h2,e=>by
  rw[dV] at e;split at e
  ·cases e
  ·rename_i hc;have hk:=Qk h k.toNat;exact DU h ks _ r (by omega) (by omega) e
def Z4(st:List Int)(k:List Int):∀(ks:List Int) (a:Int),dV st (ks++k) a=(dV st ks a).bind λr=>dV st k r
 |[],a=>rfl
 |x::ks,a=>by
  rw[List.cons_append,dV,dV];split
  ·rfl
  ·exact Z4 st k ks _
def Xz:∀(l l':List (List Int)) (st:List Int),fZ st (l++l')=(fZ st l).bind λs=>fZ s l'
 |[],l',st=>rfl
 |n::l,l',st=>by
  rw[List.cons_append,fZ,fZ];cases dV st n.reverse ((st.length:Int) - 1) with
  |none=>rfl
  |some a=>exact Xz l l' _
def YP:∀(l:List (List Int)) (st r:List Int),fZ st l=some r->r.length=st.length+l.length
 |[],st,r,h=>by rw[fZ] at h;cases h;rfl
 |n::l,st,r,h=>by
  rw[fZ] at h;split at h
  ·cases h
  ·have:=YP l _ r h;simp at this|-;omega
def VK{st:List Int}(h:Zr st){a:Int}(h1: -1<=a)(h2:a<st.length):Zr (st++[a+1]):=by
 intro j x hj;rw[List.getElem?_append] at hj;split at hj
 ·exact h j x hj
 ·rename_i hn;have:j - st.length=0:=by
   cases hd:j - st.length with
   |zero=>rfl
   |succ d=>rw[hd] at hj;simp at hj
  rw[this] at hj;simp at hj;omega
def aex:∀(l:List (List Int)) (st r:List Int),Zr st->fZ st l=some r->Zr r
 |[],st,r,h0,h=>by rw[fZ] at h;cases h;exact h0
 |n::l,st,r,h0,h=>by
  rw[fZ] at h;split at h
  ·cases h
  ·rename_i a ha;have:=DU h0 _ _ _ (by omega) (by omega) ha;exact aex l _ r (VK h0 this.1 this.2) h
def V8:Zr []:=λj x h=>by simp at h
def XA(W:World)(a:Addr)(u:Value):W.grownBy (W.setCell a u) (some a.block):=
 ⟨rfl,rfl,rfl,by simp[World.setCell],λk _ hk=>Below.heap_setCell _ _ _ k (λe=>hk (by rw[e]))⟩
def Sl(len:Nat)(st:List Int):Array Value:=(st.map (Value.int .i64)++List.replicate (len - st.length) (Value.int .i64 0)).toArray
def acr{len:Nat}{st:List Int}(h:st.length<=len):(Sl len st).size=len:=by simp[Sl];omega
def aey{len:Nat}{st:List Int}{j:Nat}(h:j<len):(Sl len st)[j]? =some (.int .i64 (st[j]?.getD 0)):=by
 simp only[Sl,List.getElem?_toArray];rw[List.getElem?_append];split
 ·rename_i hj;simp at hj;simp[hj]
 ·rename_i hj;simp at hj;rw[List.getElem?_replicate,if_pos (by simp;omega),List.getElem?_eq_none (by omega)];rfl
def awg{len:Nat}{st:List Int}(h:st.length<len)(x:Int):(Sl len st).setIfInBounds st.length (.int .i64 x)=Sl len (st++[x]):=by
 apply Array.ext
 ·simp[Sl];omega
 ·intro j h1 h2;apply Option.some.inj;rw[<-Array.getElem?_eq_getElem,<-Array.getElem?_eq_getElem];have hj:j<len:=by rw[Array.size_setIfInBounds,acr (by omega)] at h1;exact h1
  rw[aey hj,Array.getElem?_setIfInBounds];split
  ·rename_i e;subst e;rw[if_pos (by rw[acr (by omega)];exact h)];simp
  ·rename_i e;rw[aey hj,List.getElem?_append];split
   ·rfl
   ·rw[List.getElem?_eq_none (by omega),List.getElem?_eq_none (by simp;omega)]
structure Gl(w:World)(len:Nat)(st:List Int)(W:World):Prop where
 b0:Boxed W w.heap.size 32 (.slice none 0 0)
 b1:Boxed W (w.heap.size+1) 4 (.bool false)
 b2:W.heap[w.heap.size+2]? =some (.cells (Sl len st) 3 (0,0))
 b3:Boxed W (w.heap.size+3) 32 (.slice (some ⟨w.heap.size+2,0,none⟩) len len)
 bel:Below w.heap.size w W
def Gl.grown{w:World}{len:Nat}{st:List Int}{A B:World}(h:Gl w len st A){row:Option Nat}(hg:A.grownBy B row)(hr:∀r,row=some r->w.heap.size+3<r):Gl w len st B:=by
 have ne:∀k,k<=w.heap.size+3->some k≠row:=λk hk e=>by have:=hr k e.symm;omega
 refine⟨h.b0.kept hg (ne _ (by omega)),h.b1.kept hg (ne _ (by omega)), ?_,h.b3.kept hg (ne _ (by omega)),h.bel.grown hg h.bel.size λk e=>by have:=hr k e;omega⟩;rw[hg.block _ (Array.getElem?_eq_some_iff.1 h.b2).1 (ne _ (by omega))];exact h.b2
def Gl.alloc{w:World}{len:Nat}{st:List Int}{A:World}(h:Gl w len st A)(o:Obj):Gl w len st (A.alloc o):=h.grown (World.grownBy_alloc A o none) (λr e=>by cases e)
def Gl.size{w:World}{len:Nat}{st:List Int}{A:World}(h:Gl w len st A):w.heap.size+3<A.heap.size:=h.b3.lt
def Gl.set{w:World}{len:Nat}{st:List Int}{A:World}(h:Gl w len st A){b:Nat}(hb:w.heap.size+3<b)(u:Value):Gl w len st (A.setCell ⟨b,0,none⟩ u):=h.grown (XA A _ u) (λr e=>by cases e;exact hb)
def Gl.fail{w:World}{len:Nat}{st:List Int}{A:World}(h:Gl w len st A):Gl w len st ((A.setCell ⟨w.heap.size,0,none⟩ (.slice none 0 0)).setCell ⟨w.heap.size+1,0,none⟩ (.bool false)):=by refine⟨(h.b0.set _).other (by omega) _,(h.b1.other (by omega) _).set _, ?_,(h.b3.other (by omega) _).other (by omega) _,(h.bel.setCell (p:=⟨w.heap.size,0,none⟩) (Nat.le_refl _) _).setCell (p:=⟨w.heap.size+1,0,none⟩) (Nat.le_succ _) _⟩;rw[Below.heap_setCell _ _ _ _ (by simp),Below.heap_setCell _ _ _ _ (by simp)];exact h.b2
def Gl.push{w:World}{len:Nat}{st:List Int}{A:World}(h:Gl w len st A)(hl:st.length<len)(x:Int):Gl w len (st++[x]) (A.setCell ⟨w.heap.size+2,st.length,none⟩ (.int .i64 x)):=by
 have hg:=XA A ⟨w.heap.size+2,st.length,none⟩ (.int .i64 x);have ne:∀k,k≠w.heap.size+2->some k≠some (w.heap.size+2):=λk hk e=>hk (Option.some.inj e)
 refine⟨h.b0.kept hg (ne _ (by omega)),h.b1.kept hg (ne _ (by omega)), ?_,h.b3.kept hg (ne _ (by omega)),h.bel.setCell (p:=⟨w.heap.size+2,st.length,none⟩) (Nat.le_add_right _ _) _⟩;obtain⟨hlt,hk⟩:=Array.getElem?_eq_some_iff.1 h.b2;show(A.heap.modify (w.heap.size+2) _)[w.heap.size+2]? =_;rw[Array.getElem?_eq_getElem (by rw[Array.size_modify];exact hlt),Array.getElem_modify_self,hk];show some (Obj.cells (if(none:Option _).isSome then _ else _) _ _)=_;rw[if_neg (by simp),awg hl]
def Gl.elem{w:World}{len:Nat}{st:List Int}{A:World}(h:Gl w len st A){j:Nat}(hj:j<len):A.cell? ⟨w.heap.size+2,j,none⟩=some (.int .i64 (st[j]?.getD 0)):=by simp only[World.cell?,h.b2];simp[aey hj]
def Gl.aya{w:World}{len:Nat}{st:List Int}{A:World}(h:Gl w len st A)(j:Nat):A.frozen? ⟨w.heap.size+2,j,none⟩=false:=by simp[World.frozen?,h.b2]
structure Marks(n:Nat)(ms:List Nat)(W:World):Prop where
 nd:ms.Nodup
 at_:∀D,D∈ms->n+3<D/\W.heap[D]? =some (.deferred (some []))
def Marks.grown{n:Nat}{ms:List Nat}{A B:World}(h:Marks n ms A){row:Option Nat}(hg:A.grownBy B row)(hr:∀r,row=some r->r ∉ ms):Marks n ms B:=by refine⟨h.nd,λD hD=>⟨(h.at_ D hD).1, ?_⟩⟩;rw[hg.block D (Array.getElem?_eq_some_iff.1 (h.at_ D hD).2).1 (λe=>hr D e.symm hD)];exact(h.at_ D hD).2
def Marks.lt{n:Nat}{ms:List Nat}{A:World}(h:Marks n ms A):∀D,D∈ms->D<A.heap.size:=λD hD=>(Array.getElem?_eq_some_iff.1 (h.at_ D hD).2).1
def Marks.alloc{n:Nat}{ms:List Nat}{A:World}(h:Marks n ms A)(o:Obj):Marks n ms (A.alloc o):=h.grown (World.grownBy_alloc A o none) (λr e=>by cases e)
def Marks.set{n:Nat}{ms:List Nat}{A:World}(h:Marks n ms A)(a:Addr)(u:Value){c:Array Value}{t:TypeId}{f:Nat×Nat}(ha:A.heap[a.block]? =some (.cells c t f)):Marks n ms (A.setCell a u):=
 h.grown (XA A a u) (λr e hr=>by cases e;have:=(h.at_ _ hr).2;rw[ha] at this;cases this)
def ayb(D:Nat):Deferred:={target:=.collected D,args:=#[]}
set_option maxRecDepth 100000 in
def aCF(n:Nat)(hn:n<=400)(w:World):(Instr.makeSlice 32 (.int .i64 (n:Int)) (.int .i64 (n:Int))).run Tryz.prog w=.ok (.slice (some ⟨w.heap.size,0,none⟩) n n) (w.alloc (.cells (Sl n []) 3)):=by
 obtain⟨i0,hi,hz0,hz1,hz2⟩:=info_parts (P:=Tryz.prog) (e:=3) (z:=.int .i64 0) (size:=1) (bytes:=8) (by kernel_rfl);rw[run_makeSlice w 32 3 i0 _ Tryz.underlying32 hi hz0 .i64 .i64 n n (by omega) (by omega) (by rw[hz1];simp;omega) (by rw[hz2];omega) (by omega)];simp only[Int.toNat_natCast];rw[hz1];congr 3;apply Array.ext
 ·simp[size_madeCells,Sl]
 ·intro j h1 h2;simp[madeCells,Sl,Value.cells,Nat.mod_one]
def YQ{F:Fence}{n:Nat}{P:Program}{fn:Func}{tmps:Array Value}{R:Ending->World->Prop}{b:Nat}(K:World->Prop)(hK:∀W D,K W->b+3<D->K (W.putObj D (.deferred none)))
  (he:∀W,K W->LeavesIn F n P fn tmps R [] .returning W):∀(ms:List Nat) (W:World),K W->Marks b ms W->LeavesInM F n P fn tmps R (ms.map ayb) .returning W
 |[],W,k,_=>he W k
 |D::ms,W,k,h=>by
  obtain⟨h1,h2⟩:=h.at_ D List.mem_cons_self;refine⟨by simp,.inl ⟨D,_,rfl,run_takeDeferred h2, ?_⟩⟩;refine YQ K hK he ms _ (hK W D k h1) ?_;have nd:=List.nodup_cons.1 h.nd;have h':Marks b ms W:=⟨nd.2,λd hd=>h.at_ d (List.mem_cons_of_mem _ hd)⟩
  exact h'.grown (grownBy_putObj' W D _) (λr e=>by cases e;exact nd.1)
end Go.Proofs.YtmeggnejljdlfaaGreatDoor
namespace Go.Proofs.YtmeggnejljdlfaaGreatDoor
open Go.Vm (dV fZ qW)
open Go Go.Proofs Go.RowKit Go.Shelf
attribute [local go_sem] Oper.semAt_some
def aez(st:List Int)(pre:List Int)(a r k:Int)(h:dV st pre a=some r):dV st (pre++[k]) a=if r<0\/k≠r then none else some ((st[k.toNat]?.getD 0) - 1):=by rw[Z4,h];rfl
def Marks.fail{w:World}{len:Nat}{st:List Int}{ms:List Nat}{A:World}(hB:Gl w len st A)(h:Marks w.heap.size ms A):Marks w.heap.size ms ((A.setCell ⟨w.heap.size,0,none⟩ (.slice none 0 0)).setCell ⟨w.heap.size+1,0,none⟩ (.bool false)):=
 (h.set ⟨w.heap.size,0,none⟩ _ hB.b0).set ⟨w.heap.size+1,0,none⟩ _ (hB.b1.other (by omega) _)
def ayc(zs:List Int):(bk zs zs.length).map (λx:Int×Int=>x.2)=zs.reverse:=by
 apply List.ext_getElem
 ·simp[bk]
 ·intro i h1 h2;have hi:i<zs.length:=by simpa[bk] using h1
  simp[bk,awe];rw[List.getElem?_eq_getElem (by omega)];rfl
def awh(zs:List Int){k:Nat}(hk:k<=zs.length):∃r,bk zs zs.length=bk zs k++r:=by
 refine⟨(bk zs zs.length).drop k, ?_⟩;have h:bk zs k=(bk zs zs.length).take k:=by unfold bk;rw[<-List.map_take,List.take_range,Nat.min_eq_left hk]
 rw[h,List.take_append_drop]
def awi{st zs:List Int}{k:Nat}{a:Int}(hk:k<=zs.length)(h:dV st ((bk zs k).map (λx:Int×Int=>x.2)) a=none):dV st zs.reverse a=none:=by obtain⟨r,hr⟩:=awh zs hk;rw[<-ayc,hr,List.map_append,Z4,h];rfl
def apE{l:List Nk}{i:Nat}{nd:Nk}{st:List Int}(hnd:l[i]? =some nd)(hs:fZ [] ((l.take i).map (·.kids))=some st)(h:dV st nd.kids.reverse ((st.length:Int) - 1)=none):fZ [] (l.map (·.kids))=none:=by
 have hd:l.drop i=nd::l.drop (i+1):=by obtain⟨h1,h2⟩:=List.getElem?_eq_some_iff.1 hnd;rw[List.drop_eq_getElem_cons h1,h2]
 have e:l.map (·.kids)=(l.take i).map (·.kids)++(nd.kids::(l.drop (i+1)).map (·.kids)):=by rw[<-List.map_cons,<-hd,<-List.map_append,List.take_append_drop]
 rw[e,Xz,hs];show fZ st (nd.kids::_)=none;rw[fZ,h]
def asW(w:World)(l:List Nk)(e:Ending)(w':World):Prop:=
 Below w.heap.size w w'/\∃g bb,e=.returned (.tuple #[g,.bool bb])/\
  ((qW (l.map (·.kids))=none/\g=.slice none 0 0/\bb=false)\/
   ∃st,qW (l.map (·.kids))=some st/\g=.slice (some ⟨w.heap.size+2,0,none⟩) l.length l.length/\w'.heap[w.heap.size+2]? =some (.cells (Sl l.length st) 3 (0,0))/\bb=(st[l.length - 1]?.getD 0==0))
def ayd{tmps:Array Value}{w W:World}{g:Value}{bb:Bool}(h2:tmps.getD 2 undef=.pointer (some ⟨w.heap.size,0,none⟩))(h3:tmps.getD 3 undef=.pointer (some ⟨w.heap.size+1,0,none⟩))
  (b0:Boxed W w.heap.size 32 g) (b1:Boxed W (w.heap.size+1) 4 (.bool bb)) (hg:∃a n c,g=.slice a n c):(results Tryz.f127 tmps).run Tryz.prog W=.ok (.tuple #[g,.bool bb]) W:=by
 obtain⟨a,n,c,rfl⟩:=hg;have c0:=b0.cell;have c1:=b1.cell;refine Vm.afH (P:=Tryz.prog) (w:=W) (fn:=Tryz.f127) (tmps:=tmps) (gs:=[.slice a n c,.bool bb]) ?_ rfl;intro i x hx;have hr:Tryz.f127.results.toList=[.cell 2 32,.cell 3 4]:=rfl;rw[hr] at hx
 match i,hx with
 |0,hx=>cases hx;refine⟨_,rfl, ?_⟩;simp only[Vm.anO,h2];simp[go_sem,c0]
 |1,hx=>cases hx;refine⟨_,rfl, ?_⟩;simp only[Vm.anO,h3];simp[go_sem,c1]
 |i+2,hx=>simp at hx
set_option maxRecDepth 100000 in
set_option maxHeartbeats 4000000 in
def awj(w:World)(a:Option Addr)(cap:Nat)(l:List Nk)(hl:l.length<=140737488351232)(hkl:∀n,n∈l->n.kids.length * 8<=140737488351232)(hN:aus w.heap.size w (.slice a l.length cap) l):
  CallsIn Fence.wide 9 Tryz.prog 127 #[.slice a l.length cap] w λe w'=>asW w l e w':=by
 refine callsIn_of_wp_marks Tryz.func127 rfl trivial ?_ rfl;simp only[Tryz.ntmps127,List.size_toArray,List.length_cons,List.length_nil,Nat.reduceAdd,Nat.reduceSub,Array.replicate_succ,Array.replicate_zero,List.push_toArray,List.append_toArray,List.nil_append,List.cons_append]
 by_cases hb:(decide (1<=(l.length:Int)) && decide ((l.length:Int)<=400))=true
 ·have hmk:=λW=>aCF l.length (by simp at hb;omega) W
  gi_wp2_with (refine⟨trivial, ?_⟩;gi_at_call 48;refine(amf Fence.wide _ trivial rfl _ _ _ _).mono ?_;rintro e w' ⟨rfl,rfl⟩;rw[hb])
  refine wpIn_loop (λa' W=>∃(U:Nat->Value) (i:Nat) (st:List Int) (ms:List Nat),i<=l.length/\fZ [] ((l.take i).map (·.kids))=some st/\st.length=i/\Gl w l.length st W/\Marks w.heap.size ms W/\
   a'={tmps:=#[.slice a l.length cap,undef,.pointer (some ⟨w.heap.size,0,none⟩),.pointer (some ⟨w.heap.size+1,0,none⟩),.pointer (some ⟨w.heap.size+3,0,none⟩),U 5,U 6,U 7,undef,U 9,.slice a l.length cap,.int .i64 (l.length:Int),.bool true,.bool false,.slice a l.length cap,.int .i64 (l.length:Int),.slice (some ⟨w.heap.size+2,0,none⟩) l.length l.length,.slice a l.length cap,.int .i64 (l.length:Int),.int .i64 (i:Int),U 20,U 21,U 22,U 23,U 24,U 25,U 26,U 27,U 28,U 29,U 30,U 31,U 32,U 33,U 34,U 35,U 36,U 37,U 38,U 39,U 40,U 41,U 42,U 43,U 44,U 45,U 46,U 47,U 48,U 49,U 50,U 51,U 52,U 53,U 54,U 55,U 56],defers:=ms.map ayb}) (λa' _=>((l.length:Int) - intOf (a'.tmps.getD 19 undef)).toNat) ?start ?round
  case start=>
   refine⟨λ_=>undef,0,[],[],Nat.zero_le _,by simp[fZ],rfl, ?_,⟨List.nodup_nil,λD h=>by cases h⟩, ?_⟩
   ·have g0:=Boxed.new w 32 (.slice none 0 0);have g1:=Boxed.new (w.alloc (.cells #[.slice none 0 0] 32)) 4 (.bool false);have g2:=World.alloc_heap_new ((w.alloc (.cells #[.slice none 0 0] 32)).alloc (.cells #[.bool false] 4)) (.cells (Sl l.length []) 3);have g3:=Boxed.new (((w.alloc (.cells #[.slice none 0 0] 32)).alloc (.cells #[.bool false] 4)).alloc (.cells (Sl l.length []) 3)) 32 (.slice (some ⟨w.heap.size+2,0,none⟩) l.length l.length);simp only[World.size_alloc] at g1 g2 g3;refine⟨((g0.alloc _).alloc _).alloc _,(g1.alloc _).alloc _, ?_,g3, ?_⟩
    ·rw[Below.heap_alloc _ _ _ (by simp)];exact g2
    ·exact((((Below.refl _ w).alloc (Nat.le_refl _) _).alloc (by simp) _).alloc (by simp;omega) _).alloc (by simp;omega) _
   ·rfl
  case round=>
   rintro a' W ⟨U,i,st,ms,hi,hs,hsl,hB,hM,rfl⟩;have hst:=aex _ _ _ V8 hs
   by_cases hlt:i<l.length
   ·obtain⟨a0,cap0,ea,hN'⟩:=hN;have hne:l≠[]:=by intro e;subst e;simp at hlt
    obtain⟨b,off,e1,hbn,hnodes⟩:=hN' hne;cases ea;subst e1;clear hN';obtain⟨nd,hnd⟩:∃nd,l[i]? =some nd:=⟨l[i],by simp[hlt]⟩
    have hkn:=hkl nd (List.mem_of_getElem? hnd);obtain⟨sv,h0,h1,h2,h3,h4,hk⟩:=hnodes i nd hnd;have hkW:=hk.below hB.bel;have c0:W.cell? ⟨b,off+i * 5,none⟩=some (.int .i64 nd.kind):=(hB.bel.cell (p:=⟨b,off+i * 5,none⟩) hbn).trans h0;have c1:W.cell? ⟨b,off+i * 5+1,none⟩=some (.int .i64 nd.op):=(hB.bel.cell (p:=⟨b,off+i * 5+1,none⟩) hbn).trans h1;have c2:W.cell? ⟨b,off+i * 5+2,none⟩=some (.string nd.text):=(hB.bel.cell (p:=⟨b,off+i * 5+2,none⟩) hbn).trans h2;have c3:W.cell? ⟨b,off+i * 5+3,none⟩=some (.string nd.other):=(hB.bel.cell (p:=⟨b,off+i * 5+3,none⟩) hbn).trans h3;have c4:W.cell? ⟨b,off+i * 5+4,none⟩=some sv:=(hB.bel.cell (p:=⟨b,off+i * 5+4,none⟩) hbn).trans h4;obtain⟨ka,kc,esv,hkc⟩:=hk;subst esv;clear hnodes h0 h1 h2 h3 h4 hkc
    gi_wp2_with (refine⟨trivial, ?_⟩;gi_at_call 164;refine(aCE Fence.wide _ trivial rfl _ _ _ _).mono ?_;rintro e w' ⟨rfl,rfl⟩)
    clear c0 c1 c2 c3 c4;obtain⟨o1,ho1⟩:∃o,o=Obj.cells #[Value.int .i64 nd.kind,.int .i64 nd.op,.string nd.text,.string nd.other,.slice ka nd.kids.length kc] 34:=⟨_,rfl⟩
    rw[<-ho1];have hsz:=hB.size;have bA:=(Boxed.new (W.alloc o1) 3 (.int .i64 ((i:Int) - 1))).alloc (.cells #[.slice ka nd.kids.length kc] 32);have bS:=Boxed.new ((W.alloc o1).alloc (.cells #[.int .i64 ((i:Int) - 1)] 3)) 32 (.slice ka nd.kids.length kc);have hB1:=((hB.alloc o1).alloc (.cells #[.int .i64 ((i:Int) - 1)] 3)).alloc (.cells #[.slice ka nd.kids.length kc] 32);have hM1:=((hM.alloc o1).alloc (.cells #[.int .i64 ((i:Int) - 1)] 3)).alloc (.cells #[.slice ka nd.kids.length kc] 32);obtain⟨WL,hWL⟩:∃WL,WL=((W.alloc o1).alloc (.cells #[.int .i64 ((i:Int) - 1)] 3)).alloc (.cells #[.slice ka nd.kids.length kc] 32):=⟨_,rfl⟩
    rw[<-hWL] at bA bS hB1 hM1|-;simp only[World.size_alloc] at bA bS;have hWs:WL.heap.size=W.heap.size+3:=by rw[hWL];simp
    have aZa:acp w.heap.size WL (.slice ka nd.kids.length kc) nd.kids:=hkW.below (by rw[hWL];exact(((Below.refl _ W).alloc (by omega) _).alloc (by simp;omega) _).alloc (by simp;omega) _);clear hWL ho1 hkW;have aCG:=hM.lt;refine wpIn_rangeFunc_ownG rfl (by decide) (gf:=198) (lb:=#[.pointer (some ⟨W.heap.size+1+1,0,none⟩)]) rfl trivial (enters_of Tryz.func198 (by kernel_rfl) rfl)
     (asV Fence.wide 8 trivial rfl (by decide) (W.heap.size+1+1) w.heap.size _ nd.kids hkn WL (by omega) (by omega) bS.cell aZa)
     (λh k=>h.trans k) (λW' k o o' hk h h1 h2=>KpB.keeps W' k o o' (by omega) h h1 h2) (Below.refl _ _) (λ_=>rfl)
     (λpre WX=>Gl w l.length st WX/\Marks w.heap.size ms WX/\∃at_,dV st (pre.map (·.2)) ((i:Int) - 1)=some at_/\Boxed WX (W.heap.size+1) 3 (.int .i64 at_))
     (λc pre WX=>c=.ret/\Gl w l.length st WX/\Marks w.heap.size ms WX/\dV st (pre.map (·.2)) ((i:Int) - 1)=none)
     (by rintro s A B row ⟨q1,q2,at_,q3,q4⟩ hg hr;refine⟨q1.grown hg (λr e=>by have:=(hr r e).1;omega),q2.grown hg (λr e hm=>by have:=(hr r e).1;have:=aCG r hm;omega),at_,q3,q4.kept hg (λe=>by have:=(hr _ e.symm).1;omega)⟩)
     (by rintro c s A B row ⟨q0,q1,q2,q3⟩ hg hr;exact⟨q0,q1.grown hg (λr e=>by have:=(hr r e).1;omega),q2.grown hg (λr e hm=>by have:=(hr r e).1;have:=aCG r hm;omega),q3⟩)
     ⟨hB1,hM1,_,rfl,bA⟩
     (λx=>{tmps:=#[.slice (some ⟨b,off,none⟩) l.length cap,undef,.pointer (some ⟨w.heap.size,0,none⟩),.pointer (some ⟨w.heap.size+1,0,none⟩),.pointer (some ⟨w.heap.size+3,0,none⟩),.int .i64 (i:Int),.pointer (some ⟨W.heap.size,0,none⟩),.pointer (some ⟨W.heap.size+1,0,none⟩),undef,.int .i64 x.2,.slice (some ⟨b,off,none⟩) l.length cap,.int .i64 (l.length:Int),.bool true,.bool false,.slice (some ⟨b,off,none⟩) l.length cap,.int .i64 (l.length:Int),.slice (some ⟨w.heap.size+2,0,none⟩) l.length l.length,.slice (some ⟨b,off,none⟩) l.length cap,.int .i64 (l.length:Int),.int .i64 (i:Int),.bool true,.int .i64 (i:Int),.pointer (some ⟨b,off+i * 5,none⟩),.agg #[.int .i64 nd.kind,.int .i64 nd.op,.string nd.text,.string nd.other,.slice ka nd.kids.length kc],.int .i64 (i:Int),.int .i64 ((i:Int) - 1),.pointer (some ⟨W.heap.size,4,none⟩),.slice ka nd.kids.length kc,.func (.func 198) #[] #[.pointer (some ⟨W.heap.size+1+1,0,none⟩)],.int .i64 x.1,.int .i64 x.2,U 31,U 32,U 33,U 34,U 35,U 36,U 37,U 38,U 39,U 40,U 41,U 42,U 43,U 44,U 45,U 46,U 47,U 48,U 49,U 50,U 51,U 52,U 53,U 54,U 55,U 56],defers:=[]}) ?assign ?body ?done ?stop
    case assign=>
     intro l' x WX K hK
     gi_wp2
     exact hK
    case body=>
     rintro l' pre x WX ⟨q1,q2,at_,q3,q4⟩ _;have hr:=DU hst _ _ _ (by omega) (by omega) q3;have d4:=q4.cell;have d4f:=q4.frozen;have d3:=q1.b3.cell;have d0:=q1.b0.cell;have d0f:=q1.b0.frozen;have d1:=q1.b1.cell;have d1f:=q1.b1.frozen
     by_cases hneg:at_<0
     ·gi_wp2
      exact⟨((KeepsOthers.setCell _ _ _).trans (KeepsOthers.setCell _ _ _)).from _,rfl,q1.fail,Marks.fail q1 q2,by simp only[List.map_append,List.map_cons,List.map_nil];rw[aez st _ _ _ x.2 q3,if_pos (.inl hneg)]⟩
     ·obtain⟨j,rfl⟩:∃j:Nat,at_=(j:Int):=⟨at_.toNat,by omega⟩
      by_cases hke:x.2=(j:Int)
      ·have hz:=Qk hst j;have de:=q1.elem (j:=j) (by omega);have def_:=q1.aya j;have hsn:=aez st (pre.map (·.2)) _ _ x.2 q3;rw[hke] at hsn;simp only[Int.toNat_natCast] at hsn;generalize st[j]?.getD 0=z at hz de hsn
       gi_wp2
       refine⟨(KeepsOthers.setCell _ _ _).from _,⟨(Below.refl _ _).setCell (p:=⟨W.heap.size+1,0,none⟩) (by show w.heap.size<=W.heap.size+1;omega) _,λv hv=> ?_⟩,q1.set (by omega) _,q2.set _ _ q4,z - 1, ?_,q4.set _⟩
       ·rw[<-hv];exact World.cell?_of_block (Below.heap_setCell _ _ _ _ (by show W.heap.size+1+1≠W.heap.size+1;omega))
       ·simp only[List.map_append,List.map_cons,List.map_nil];rw[hke,hsn,if_neg (by omega)]
      ·gi_wp2
       exact⟨((KeepsOthers.setCell _ _ _).trans (KeepsOthers.setCell _ _ _)).from _,rfl,q1.fail,Marks.fail q1 q2,by simp only[List.map_append,List.map_cons,List.map_nil];rw[aez st _ _ _ x.2 q3,if_pos (.inr hke)]⟩
    case done=>
     rintro D xs WX hD rfl ⟨q1,q2,at_,q3,q4⟩ hK;have hr:=DU hst _ _ _ (by omega) (by omega) q3;have d3:=q1.b3.cell;have d4:=q4.cell;have de:=q1.elem (j:=i) (by omega);have def_:=q1.aya i;generalize st[i]?.getD 0=z at de
     gi_wp2
     have ei:((i:Int)+1)=((i+1:Nat):Int):=by omega
     rw[ei];have hx:(List.map (λx:Int×Int=>x.2) (bk nd.kids nd.kids.length))=nd.kids.reverse:=ayc _;rw[hx] at q3;have hcells:=q1.b2;refine⟨⟨λk=>#[Value.slice (some ⟨b,off,none⟩) l.length cap,undef,Value.pointer (some ⟨w.heap.size,0,none⟩),Value.pointer (some ⟨w.heap.size+1,0,none⟩),Value.pointer (some ⟨w.heap.size+3,0,none⟩),Value.int .i64 (i:Int),Value.pointer (some ⟨W.heap.size,0,none⟩),Value.pointer (some ⟨W.heap.size+1,0,none⟩),undef,U 9,Value.slice (some ⟨b,off,none⟩) l.length cap,Value.int .i64 (l.length:Int),Value.bool true,Value.bool false,Value.slice (some ⟨b,off,none⟩) l.length cap,Value.int .i64 (l.length:Int),Value.slice (some ⟨w.heap.size+2,0,none⟩) l.length l.length,Value.slice (some ⟨b,off,none⟩) l.length cap,Value.int .i64 (l.length:Int),Value.int .i64 ((i+1:Nat):Int),Value.bool true,Value.int .i64 (i:Int),Value.pointer (some ⟨b,off+i * 5,none⟩),Value.agg #[.int .i64 nd.kind,.int .i64 nd.op,.string nd.text,.string nd.other,.slice ka nd.kids.length kc],Value.int .i64 (i:Int),Value.int .i64 ((i:Int) - 1),Value.pointer (some ⟨W.heap.size,4,none⟩),Value.slice ka nd.kids.length kc,Value.func (.func 198) #[] #[.pointer (some ⟨W.heap.size+1+1,0,none⟩)],U 29,U 30,U 31,U 32,U 33,U 34,U 35,U 36,U 37,U 38,U 39,U 40,U 41,U 42,Value.slice (some ⟨w.heap.size+2,0,none⟩) l.length l.length,Value.int .i64 (i:Int),Value.int .i64 at_,Value.int .i64 (at_+1),Value.pointer (some ⟨w.heap.size+2,i,none⟩),Value.int .i64 ((i+1:Nat):Int),U 49,U 50,U 51,U 52,U 53,U 54,U 55,U 56].getD k undef,i+1,st++[at_+1],D::ms,hlt, ?_,by simp[hsl], ?_, ?_,rfl⟩, ?_⟩
     ·rw[List.take_add_one,hnd,Option.toList_some,List.map_append,Xz,hs];show fZ st [nd.kids]=_;rw[fZ,hsl,q3];rfl
     ·rw[<-hsl];exact q1.push (by omega) _
     ·refine⟨List.nodup_cons.2 ⟨λhm=>by have:=aCG D hm;omega,q2.nd⟩,λd hd=> ?_⟩;have hset:=q2.set ⟨w.heap.size+2,i,none⟩ (.int .i64 (at_+1)) q1.b2;rcases List.mem_cons.1 hd with rfl|hd
      ·refine⟨by omega, ?_⟩;rw[Below.heap_setCell _ _ _ _ (by show d≠w.heap.size+2;omega)];exact hK
      ·exact hset.at_ d hd
     ·simp[intOf];omega
    case stop=>
     rintro D c pre WX hD ⟨k,hkz,rfl⟩ ⟨rfl,q1,q2,q3⟩ hK
     gi_wp2
     have hM2:Marks w.heap.size (D::ms) WX:=⟨List.nodup_cons.2 ⟨λhm=>by have:=aCG D hm;omega,q2.nd⟩,λd hd=>by
      rcases List.mem_cons.1 hd with rfl|hd
      ·exact⟨by omega,hK⟩
      ·exact q2.at_ d hd⟩
     refine YQ (b:=w.heap.size) (λW'=>Gl w l.length st W') (λW' d h hd=>h.grown (grownBy_putObj' W' d _) (λr e=>by cases e;exact hd)) ?_ (D::ms) WX q1 hM2;intro W' q;refine⟨_,ayd (w:=w) rfl rfl q.b0 q.b1 ⟨none,0,0,rfl⟩,q.bel,_,_,rfl,.inl ⟨?_,rfl,rfl⟩⟩;simp at hb;rw[qW,if_pos (by simp;omega)];exact apE hnd hs (by rw[hsl];exact awi hkz q3)
   ·obtain rfl:i=l.length:=by omega
    simp at hb;have d3:=hB.b3.cell;have d0:=hB.b0.cell;have d0f:=hB.b0.frozen;have d1:=hB.b1.cell;have d1f:=hB.b1.frozen;have de:=hB.elem (j:=l.length - 1) (by omega);have def_:=hB.aya (l.length - 1);generalize hz:st[l.length - 1]?.getD 0=z at de
    gi_wp2
    gi_region
    all_goals gi_wp2
    have k0:Boxed ((W.setCell ⟨w.heap.size,0,none⟩ (.slice (some ⟨w.heap.size+2,0,none⟩) l.length l.length)).setCell ⟨w.heap.size+1,0,none⟩ (.bool (z==0))).drew w.heap.size 32 (.slice (some ⟨w.heap.size+2,0,none⟩) l.length l.length):=(hB.b0.set _).other (by omega) _;have k1:Boxed ((W.setCell ⟨w.heap.size,0,none⟩ (.slice (some ⟨w.heap.size+2,0,none⟩) l.length l.length)).setCell ⟨w.heap.size+1,0,none⟩ (.bool (z==0))).drew (w.heap.size+1) 4 (.bool (z==0)):=(hB.b1.other (by omega) _).set _;have k2:((W.setCell ⟨w.heap.size,0,none⟩ (.slice (some ⟨w.heap.size+2,0,none⟩) l.length l.length)).setCell ⟨w.heap.size+1,0,none⟩ (.bool (z==0))).drew.heap[w.heap.size+2]? =some (.cells (Sl l.length st) 3 (0,0)):=by show((W.setCell _ _).setCell _ _).heap[w.heap.size+2]? =_;rw[Below.heap_setCell _ _ _ _ (by simp),Below.heap_setCell _ _ _ _ (by simp)];exact hB.b2
    have k3:Below w.heap.size w ((W.setCell ⟨w.heap.size,0,none⟩ (.slice (some ⟨w.heap.size+2,0,none⟩) l.length l.length)).setCell ⟨w.heap.size+1,0,none⟩ (.bool (z==0))).drew:=
     ((hB.bel.setCell (p:=⟨w.heap.size,0,none⟩) (Nat.le_refl _) _).setCell (p:=⟨w.heap.size+1,0,none⟩) (Nat.le_succ _) _).drew
    have hM2:Marks w.heap.size ms ((W.setCell ⟨w.heap.size,0,none⟩ (.slice (some ⟨w.heap.size+2,0,none⟩) l.length l.length)).setCell ⟨w.heap.size+1,0,none⟩ (.bool (z==0))).drew:=
     have h:=(hM.set ⟨w.heap.size,0,none⟩ (.slice (some ⟨w.heap.size+2,0,none⟩) l.length l.length) hB.b0).set ⟨w.heap.size+1,0,none⟩ (.bool (z==0)) (hB.b1.other (by omega) _)
     ⟨h.nd,h.at_⟩
    refine YQ (b:=w.heap.size) (λW'=>Boxed W' w.heap.size 32 (.slice (some ⟨w.heap.size+2,0,none⟩) l.length l.length)/\Boxed W' (w.heap.size+1) 4 (.bool (z==0))/\W'.heap[w.heap.size+2]? =some (.cells (Sl l.length st) 3 (0,0))/\Below w.heap.size w W')
     (λW' d h hd=> ?_) ?_ ms _ ⟨k0,k1,k2,k3⟩ hM2
    ·obtain⟨h0,h1,h2,h3⟩:=h;have hg:=grownBy_putObj' W' d (.deferred none);refine⟨h0.kept hg (λe=>by cases e;omega),h1.kept hg (λe=>by cases e;omega), ?_,h3.grown hg h3.size (λk e=>by cases e;omega)⟩;rw[hg.block _ (Array.getElem?_eq_some_iff.1 h2).1 (λe=>by cases e;omega)];exact h2
    ·rintro W' ⟨h0,h1,h2,h3⟩;refine⟨_,ayd (w:=w) rfl rfl h0 h1 ⟨_,_,_,rfl⟩,h3,_,_,rfl,.inr ⟨st, ?_,rfl,h2,by rw[hz]⟩⟩;rw[qW,if_pos (by simp;omega)];rw[List.take_length] at hs;exact hs
 ·have hb':(decide (1<=(l.length:Int)) && decide ((l.length:Int)<=400))=false:=by simpa using hb
  gi_wp2_with (refine⟨trivial, ?_⟩;gi_at_call 48;refine(amf Fence.wide _ trivial rfl _ _ _ _).mono ?_;rintro e w' ⟨rfl,rfl⟩;rw[hb'])
  have g0:=(Boxed.new w 32 (.slice none 0 0)).alloc (.cells #[.bool false] 4);have g1:=Boxed.new (w.alloc (.cells #[.slice none 0 0] 32)) 4 (.bool false);simp only[World.size_alloc] at g1;refine⟨_,ayd (w:=w) rfl rfl g0 g1 ⟨none,0,0,rfl⟩,((Below.refl _ w).alloc (Nat.le_refl _) _).alloc (by simp) _,_,_,rfl,.inl ⟨?_,rfl,rfl⟩⟩;rw[qW,if_neg];intro h;simp at hb h;omega
end Go.Proofs.YtmeggnejljdlfaaGreatDoor
namespace Go.Proofs.YtmeggnejljdlfaaGreatDoor
set_option maxRecDepth 100000
open Go.Vm (dV fZ qW)
open Go Go.Vm Go.Proofs Go.RowKit
def an6:au->Option (List Int)
 |[]=>some []
 |r::rs=>match r with
  |[.int .i64 x]=>(an6 rs).map (x:: ·)
  |_=>none
def asX:Row->Option Nk
 |[.int .i64 k,.int .i64 op,.str t,.str u,.sl _ 1 kids]=>(an6 kids).bind λks=>if ks.length<=1048576 then some ⟨k,op,⟨⟨t⟩⟩,⟨⟨u⟩⟩,ks⟩ else none
 |_=>none
def Z5:au->Option (List Nk)
 |[]=>some []
 |r::rs=>(asX r).bind λk=>(Z5 rs).map (k:: ·)
def Ya(l:List Int):au:=l.map λx=>[.int .i64 x]
def M.lu(rows:au):Option (au×Bool):=(Z5 rows).bind λl=>if l.length<=1048576 then
 (match qW (l.map (·.kids)) with
  |none=>some ([],false)
  |some st=>some (Ya st,st[l.length - 1]?.getD 0==0)) else none
def Prim.lu(a:List V)(c:List Cell):Option (au×List Cell):=match a,c with
 |[.d (.sl _ 5 rows)],[]=>(M.lu rows).map λr=>([[.sl true 1 r.1],[.bool r.2]],[])
 |_,_=>none
def apF:∀(rs:au) (l:List Int),an6 rs=some l->rs=Ya l
 |[],l,h=>by simp only[an6,jF] at h;subst h;rfl
 |r::rs,l,h=>by
  unfold an6 at h;split at h
  ·cases hd:an6 rs with
   |none=>rw[hd] at h;cases h
   |some l'=>rw[hd] at h;cases h;rw[apF rs l' hd];rfl
  ·cases h
def apG{r:Row}{n:Nk}(h:asX r=some n):∃t u own,n.text=⟨⟨t⟩⟩/\n.other=⟨⟨u⟩⟩/\n.kids.length<=1048576/\r=[.int .i64 n.kind,.int .i64 n.op,.str t,.str u,.sl own 1 (Ya n.kids)]:=by
 unfold asX at h;split at h
 ·rename_i k op t u own' kids;cases hk:an6 kids with
  |none=>rw[hk] at h;cases h
  |some ks=>
   rw[hk,ah] at h;split at h
   ·cases h;obtain rfl:=apF kids ks hk;exact⟨t,u,own',rfl,rfl,by assumption,rfl⟩
   ·cases h
 ·cases h
def aeA:∀(rs:au) (l:List Nk),Z5 rs=some l->rs.length=l.length/\∀(i:Nat) n,l[i]? =some n->∃r,rs[i]? =some r/\asX r=some n
 |[],l,h=>by simp only[Z5,jF] at h;subst h;exact⟨rfl,λi n hn=>by simp at hn⟩
 |r::rs,l,h=>by
  rw[Z5] at h;cases hd:asX r with
  |none=>rw[hd] at h;cases h
  |some k=>
   rw[hd,ah] at h;cases hds:Z5 rs with
   |none=>rw[hds] at h;cases h
   |some l'=>
    rw[hds] at h;cases h;obtain⟨h1,h2⟩:=aeA rs l' hds;refine⟨by simp[h1],λi n hn=> ?_⟩;cases i with
    |zero=>simp only[List.getElem?_cons_zero,jF] at hn;subst hn;exact⟨r,rfl,hd⟩
    |succ i=>simp only[List.getElem?_cons_succ] at hn|-;exact h2 i n hn
def Pv{h:View}{s:Nat}:∀{rs:au} {b o i:Nat} {r:Row},oW h s rs b o->rs[i]? =some r->r.length=s/\yX h r b (o+i * s)
 |[],b,o,i,r,q,hi=>by simp at hi
 |r'::rs,b,o,i,r,q,hi=>by
  simp only[oW] at q;cases i with
  |zero=>simp only[List.getElem?_cons_zero,jF] at hi;subst hi;simp only[Nat.zero_mul,Nat.add_zero];exact⟨q.1,q.2.1⟩
  |succ i=>simp only[List.getElem?_cons_succ] at hi;obtain⟨h1,h2⟩:=Pv q.2.2 hi;refine⟨h1, ?_⟩;rw[show o+(i+1) * s=o+s+i * s by rw[Nat.succ_mul];omega];exact h2
def SH{w:World}{U Y:Nat->Prop}{b o:Nat}{v:Value}(h:view w U Y b o=some v):w.cell? ⟨b,o,none⟩=some v/\b<w.heap.size:=by
 unfold view at h;split at h
 ·refine⟨h, ?_⟩;unfold World.cell? at h;cases ho:w.heap[b]? with
  |none=>simp[ho] at h
  |some o=>exact(Array.getElem?_eq_some_iff.1 ho).1
 ·cases h
def aCH{w:World}{U Y:Nat->Prop}{own:Bool}{ks:List Int}{v:Value}(h:ro (view w U Y) (.sl own 1 (Ya ks)) v):acp w.heap.size w v ks:=by
 simp only[ro] at h;obtain⟨a,cap,rfl,hc,hr⟩:=h;have hl:(Ya ks).length=ks.length:=by simp[Ya]
 refine⟨a,cap,by rw[hl],λhz=> ?_⟩;obtain⟨b,o,rfl,hrr⟩:=hr (by intro e;apply hz;simpa[Ya] using e);have get:∀j,j<ks.length->w.cell? ⟨b,o+j,none⟩=some (.int .i64 (ks[j]?.getD 0))/\b<w.heap.size:=by
  intro j hj;have e:(Ya ks)[j]? =some [D.int .i64 (ks[j]?.getD 0)]:=by simp[Ya,hj]
  obtain⟨_,h2⟩:=Pv hrr e;simp only[yX,Nat.mul_one] at h2;obtain⟨⟨v,hv,hv2⟩,_⟩:=h2;simp only[ro] at hv2;subst hv2;exact SH hv
 have hpos:0<ks.length:=by
  cases ks with
  |nil=>exact absurd rfl hz
  |cons _ _=>simp
 exact⟨b,o,rfl,(get 0 hpos).2,λj hj=>(get j hj).1⟩
def aye{w:World}{U Y:Nat->Prop}{own:Bool}{rows:au}{l:List Nk}{v:Value}(hd:Z5 rows=some l)(h:ro (view w U Y) (.sl own 5 rows) v):aus w.heap.size w v l:=by
 simp only[ro] at h;obtain⟨a,cap,rfl,hc,hr⟩:=h;obtain⟨hl,hg⟩:=aeA rows l hd;refine⟨a,cap,by rw[hl],λhz=> ?_⟩;obtain⟨b,o,rfl,hrr⟩:=hr (by intro e;subst e;simp at hl;exact hz (List.length_eq_zero_iff.1 hl.symm));have get:∀i n,l[i]? =some n->ax9 w.heap.size w b (o+i * 5) n/\b<w.heap.size:=by intro i n hn;obtain⟨r,hri,hdk⟩:=hg i n hn;obtain⟨_,h2⟩:=Pv hrr hri;obtain⟨t,u,own',e1,e2,_,rfl⟩:=apG hdk;simp only[yX] at h2;obtain⟨⟨v0,h0,r0⟩,⟨v1,h1,r1⟩,⟨v2,h2,r2⟩,⟨v3,h3,r3⟩,⟨v4,h4,r4⟩,_⟩:=h2;simp only[ro] at r0 r1 r2 r3;subst r0 r1 r2 r3;exact⟨⟨v4,(SH h0).1,(SH h1).1,by rw[e1];exact(SH h2).1,by rw[e2];exact(SH h3).1,(SH h4).1,aCH r4⟩,(SH h0).2⟩
 have hpos:∃n,l[0]? =some n:=by
  cases l with
  |nil=>exact absurd rfl hz
  |cons n _=>exact⟨n,rfl⟩
 obtain⟨n0,hn0⟩:=hpos;exact⟨b,o,rfl,(get 0 n0 hn0).2,λi n hn=>(get i n hn).1⟩
def asY{rows:au}{l:List Nk}(hd:Z5 rows=some l):∀n,n∈l->n.kids.length<=1048576:=by intro n hn;obtain⟨i,hi⟩:=List.mem_iff_getElem?.1 hn;obtain⟨r,_,hdk⟩:=(aeA rows l hd).2 i n hi;obtain⟨_,_,_,_,_,h,_⟩:=apG hdk;exact h
def afN{H:Heap}{h:View}:∀(st:List Int) (cs:List Value),cs=st.map (Value.int .i64)++cs.drop st.length->gJ H h 1 (Ya st) cs []
 |[],cs,e=>rfl
 |x::st,cs,e=>by
  cases cs with
  |nil=>simp at e
  |cons c cs=>simp only[PO,VE,mQ,List.drop_succ_cons,List.cons.injEq] at e;obtain⟨rfl,e⟩:=e;simp only[Ya,PO,gJ];refine⟨rfl,[],[],rfl, ?_,afN st cs e⟩;simp only[iW];exact⟨_,_,[],[],rfl,rfl,⟨rfl,rfl⟩,rfl⟩
def ak3{X:Ctx}(hP:X.P=Tryz.prog)(hm:JW X.UO 127 0=0)(fn:Func)(args:List V)(cells:List Cell)(rows:au)(outs:List Cell)(hf:X.P.funcs[127]? =some fn)(h:Prim.lu args cells=some (rows,outs))
  (base:Nat) (U:Nat->Prop) (w:World) (gargs jD:List Value) (N1 N2:List Nat) (hG:Given X base U w 127 args cells gargs jD N1 N2):
  Calls X.P 127 gargs.toArray w λe w'=>∃gs M1 M2,e=.returned (ab6 gs)/\Did X.P U w w' (N1++N2) fn.resultTypes.toList cells outs jD rows gs M1 M2:=by
 unfold Prim.lu at h;split at h
 ·rename_i own rws;cases hs:M.lu rws with
  |none=>rw[hs] at h;cases h
  |some r=>
   rw[hs] at h;cases h;rw[hP] at hf;have hfn:fn.resultTypes.toList=[32,4]:=by rw[Tryz.func127] at hf;cases hf;rfl
   have ha:=hG.args;simp only[VU,hm] at ha;obtain⟨v0,gs',n1,n2,rfl,rfl,⟨rfl,hv0⟩,rfl,rfl⟩:=ha;have hc:=hG.cells;obtain⟨rfl,rfl⟩:=hc;simp only[aO] at hv0;unfold M.lu at hs;cases hd:Z5 rws with
   |none=>rw[hd] at hs;cases hs
   |some l=>
    rw[hd,ah] at hs;split at hs
    ·rename_i hlen;have hN:=aye hd hv0;have hN':=hN;obtain⟨a,cap,rfl,_⟩:=hN';have hk:=asY hd;have hcall:=callsIn_wide.1 (awj w a cap l ak (λn hn=>by have:=hk n hn;omega) hN);rw[hP];refine hcall.mono ?_;rintro e w' ⟨hbel,g,bb,rfl,hres⟩;rw[hfn];have hkeep:Keep [] w w':=⟨hbel.os,hbel.tape,hbel.output,hbel.size,λb hb _=>hbel.block b hb⟩
     rcases hres with⟨hno,rfl,rfl⟩|⟨st,hst,rfl,hblk,rfl⟩
     ·rw[hno] at hs;cases hs;refine⟨[.slice none 0 0,.bool false],[],[],rfl,hkeep,by simp,λb hb=>by simp at hb,rfl,⟨rfl,rfl⟩, ?_⟩;simp only[Xd];refine⟨_,_,_,_,[],[],rfl,rfl,rfl,(Qg (by kernel_rfl)).2 ⟨[.slice none 0 0], ?_, ?_,rfl⟩,_,_,_,_,[],[],rfl,rfl,rfl,(Qg (by kernel_rfl)).2 ⟨[.bool false], ?_, ?_,rfl⟩,rfl,rfl,rfl⟩
      ·rw[Vm.valOf,if_neg (by intro e;revert e;rw[show Sv Tryz.prog 32=false by kernel_rfl];simp)]
      ·simp only[iW];exact⟨_,_,[],[],rfl,rfl,.inl ⟨rfl,rfl,rfl⟩,rfl⟩
      ·rw[Vm.valOf,if_neg (by intro e;revert e;rw[show Sv Tryz.prog 4=false by kernel_rfl];simp)]
      ·simp only[iW];exact⟨_,_,[],[],rfl,rfl,⟨rfl,rfl⟩,rfl⟩
     ·rw[hst] at hs;cases hs;have hsl:st.length=l.length:=by
       unfold qW at hst;split at hst
       ·have:=YP _ _ _ hst;simpa using this
       ·cases hst
      have hlt:w.heap.size+2<w'.heap.size:=(Array.getElem?_eq_some_iff.1 hblk).1;refine⟨[.slice (some ⟨w.heap.size+2,0,none⟩) l.length l.length,.bool (st[l.length - 1]?.getD 0==0)],[],[w.heap.size+2],rfl,hkeep,by simp,λb hb=> ?_,rfl,⟨rfl,rfl⟩, ?_⟩
      ·simp at hb;subst hb;exact⟨.inr ak,hlt⟩
      ·simp only[Xd];refine⟨_,_,_,_,[w.heap.size+2],[],rfl,rfl,rfl,(Qg (by kernel_rfl)).2 ⟨[.slice (some ⟨w.heap.size+2,0,none⟩) l.length l.length], ?_, ?_,rfl⟩,_,_,_,_,[],[],rfl,rfl,rfl,(Qg (by kernel_rfl)).2 ⟨[.bool (st[l.length - 1]?.getD 0==0)], ?_, ?_,rfl⟩,rfl,rfl,rfl⟩
       ·rw[Vm.valOf,if_neg (by intro e;revert e;rw[show Sv Tryz.prog 32=false by kernel_rfl];simp)]
       ·simp only[iW];refine⟨_,_,[w.heap.size+2],[],rfl,rfl,.inr ⟨w.heap.size+2,l.length,Sl l.length st,3,[], ?_,by simp[Ya,hsl],hblk, ?_, ?_,rfl⟩,rfl⟩
        ·simp[Ya,hsl]
        ·rw[acr ak,Nat.mul_one]
        ·refine afN st _ ?_;have:l.length - st.length=0:=ak;simp[Sl,this]
       ·rw[Vm.valOf,if_neg (by intro e;revert e;rw[show Sv Tryz.prog 4=false by kernel_rfl];simp)]
       ·simp only[iW];exact⟨_,_,[],[],rfl,rfl,⟨rfl,rfl⟩,rfl⟩
    ·cases hs
 ·cases h
end Go.Proofs.YtmeggnejljdlfaaGreatDoor
namespace Go.Proofs.YtmeggnejljdlfaaGreatDoor
open Go Go.Vm
def Gm:Row:=[.str [66,69,71,73,78],.str [69,78,68],.str [102,117,110,99,116,105,111,110],.str [105,102],.str [101,108,115,101],.str [119,104,105,108,101],.str [102,111,114],.str [100,111],.str [98,114,101,97,107],.str [99,111,110,116,105,110,117,101],.str [110,101,120,116],.str [101,120,105,116],.str [114,101,116,117,114,110],.str [100,101,108,101,116,101],.str [105,110],.str [112,114,105,110,116],.str [112,114,105,110,116,102]]
def V9:Row:=[.str [123],.str [125],.str [40],.str [41],.str [91],.str [93],.str [44],.str [59],.str [43,61],.str [45,61],.str [42,61],.str [47,61],.str [37,61],.str [94,61],.str [124,124],.str [38,38],.str [33,126],.str [61,61],.str [60,61],.str [62,61],.str [33,61],.str [43,43],.str [45,45],.str [62,62],.str [61],.str [43],.str [45],.str [42],.str [47],.str [37],.str [94],.str [33],.str [62],.str [60],.str [124],.str [63],.str [58],.str [126],.str [36]]
def PW:Row:=[.str [97,116,97,110,50],.str [99,108,111,115,101],.str [99,111,115],.str [101,120,112],.str [103,115,117,98],.str [105,110,100,101,120],.str [105,110,116],.str [108,101,110,103,116,104],.str [108,111,103],.str [109,97,116,99,104],.str [114,97,110,100],.str [115,105,110],.str [115,112,108,105,116],.str [115,112,114,105,110,116,102],.str [115,113,114,116],.str [115,114,97,110,100],.str [115,117,98],.str [115,117,98,115,116,114],.str [115,121,115,116,101,109],.str [116,111,108,111,119,101,114],.str [116,111,117,112,112,101,114]]
def M.strings_Contains(s t:aA):Option Bool:=match t with
 |[c]=>some (decide (0<=Lib.indexByte s c))
 |_=>none
def Prim.strings_Contains(a:List V)(c:List Cell):Option (au×List Cell):=match a,c with
 |[.d (.str s),.d (.str t)],[]=>(M.strings_Contains s t).map λr=>([[.bool r]],[])
 |_,_=>none
def asZ:au->Option (List (aA))
 |[]=>some []
 |r::rs=>match r with
  |[.str x]=>match asZ rs with
   |some l=>some (x::l)
   |none=>none
  |_=>none
def joinL(sep:aA):List (aA)->aA
 |[]=>[]
 |[x]=>x
 |x::y::l=>x++(sep++joinL sep (y::l))
def apH:List (aA)->Nat
 |[]=>0
 |x::l=>x.length+apH l
def M.strings_Join(rows:au)(sep:aA):Option (aA):=match asZ rows with
 |some l=>bif Nat.ble (apH l+l.length * (sep.length+1)) 4294967296 then some (joinL sep l) else none
 |none=>none
def Prim.strings_Join(a:List V)(c:List Cell):Option (au×List Cell):=match a,c with
 |[.d (.sl false 1 rows),.d (.str s)],[]=>(M.strings_Join rows s).map λr=>([[.str r]],[])
 |_,_=>none
def M.strings_Repeat(s:aA)(n:Int):Option (aA):=bif(decide (0<=n) && decide (n<=1000000)) && Nat.ble s.length 1000000 then some (List.replicate n.toNat s).flatten else none
def Prim.strings_Repeat(a:List V)(c:List Cell):Option (au×List Cell):=match a,c with
 |[.d (.str s),.d (.int .i64 n)],[]=>(M.strings_Repeat s n).map λr=>([[.str r]],[])
 |_,_=>none
def acs(s sep:aA):List (aA):=(Lib.splitB ⟨⟨sep⟩⟩ 0 (Lib.countB ⟨⟨s⟩⟩ ⟨⟨sep⟩⟩) ⟨⟨s⟩⟩).map (·.data.toList)
def M.strings_Split(s t:aA):Option (au):=bif Nat.blt s.length 4294967281 && Nat.ble 1 t.length then some (encS (acs s t)) else none
def Prim.strings_Split(a:List V)(c:List Cell):Option (au×List Cell):=match a,c with
 |[.d (.str s),.d (.str t)],[]=>(M.strings_Split s t).map λr=>([[.sl true 1 r]],[])
 |_,_=>none
abbrev jH{R:Type}(x r:au)(n:Nat)(k:au->Option R):Option R:=bif((x.length+r.length) * n).ble 140737488355328 then(bif(x.length+r.length).ble 140737488355328 then k (x++r) else none) else none
abbrev qQ(r:Int×Int×aA×au×Int):Row:=[D.int .i64 r.1,D.int .i64 r.2.1,D.str r.2.2.1,D.sl false 5 (aG r.2.2.2.1),D.int .i64 r.2.2.2.2]
abbrev wH(r:Int×Int×aA×au×Int):Int×Int×aA×au×Int:=(r.1,r.2.1,r.2.2.1,aG r.2.2.2.1,r.2.2.2.2)
abbrev nC{R:Type}(n:Nat)(x:Row)(k:Int->Int->aA->aA->au->Option R):Option R:=(bM .i64 x 0).bind λa=>(bM .i64 x 1).bind λb=>(cStr x 2).bind λc=>(cStr x 3).bind λd=>(NP n x 4).bind λe=>k a b c d e
abbrev bJ{A B C D E F G:Type}(f:A->B->C->D->E->G)(p:A×B×C×D×E×F):G:=f p.1 p.2.1 p.2.2.1 p.2.2.2.1 p.2.2.2.2.1
abbrev iQ(n:Int):V:=V.d (D.int .i64 n)
abbrev uX(b:Bool):V:=V.d (D.bool b)
abbrev yG(s:aA):V:=V.d (D.str s)
abbrev F9(n:Nat)(r:au):V:=V.d (D.sl false n r)
def jU:(∀(R:Type) (x r:au) (n:Nat) (k:au->Option R),jH x r n k=bif((x.length+r.length) * n).ble 140737488355328 then(bif(x.length+r.length).ble 140737488355328 then k (x++r) else none) else none)/\(∀r,qQ r=[D.int .i64 r.1,D.int .i64 r.2.1,D.str r.2.2.1,D.sl false 5 (aG r.2.2.2.1),D.int .i64 r.2.2.2.2])/\(∀r,wH r=(r.1,r.2.1,r.2.2.1,aG r.2.2.2.1,r.2.2.2.2))/\(∀(R:Type) (n:Nat) (x:Row) (k:Int->Int->aA->aA->au->Option R),nC n x k=(bM .i64 x 0).bind λa=>(bM .i64 x 1).bind λb=>(cStr x 2).bind λc=>(cStr x 3).bind λd=>(NP n x 4).bind λe=>k a b c d e):= ⟨λ_ _ _ _ _=>rfl,λ_=>rfl,λ_=>rfl,λ_ _ _ _=>rfl⟩
noncomputable section
variable {R:Type}
def kd:List Nat->List (List Nat)->List (List Nat)
 |_,[]=>[]
 |p,l::r=>match l with
  |[]=>[]::kd [] r
  |k::l=>(p.take k++l)::kd (p.take k++l) r
def kp3:=kd [] [[0,0],[1,13],[0,2],[0,3,4],[2,5,6],[1,5,6,8],[3,33],[0,2],[0,3,5,39],[0,2],[0,3,5,9],[3,10],[4,47],[4],[4,11],[4,71],[0,2],[1]]
def kp4:=[[0],[2]]
def kp5:=[[0],[4],[4,5],[4,5,11],[4,5],[2,3]]
def kp6:=[[0,1],[4,5]]
def kp7:=[[0,1],[6,7],[4,5]]
def kp8:=[[0],[3],[3,12],[3],[2]]
def kp9:=kd [] [[0,0,1],[2,5],[3,6],[4,10],[4],[4,19],[4],[0,4]]
def aZb:=kd [] [[0,0],[1,3],[2,4],[3,15],[3],[3],[0,2]]
def aZc:=kd [] [[0,0],[1,3],[2,4],[3,10],[3],[3],[1,5],[2,23],[0,2]]
def aZd:=[[0,1],[4]]
def aZe:=[[0],[0,3],[0,3,4],[0,3,4,12],[0,3,4,12,13],[3],[0,3,4,12,21],[3],[0,3,4,12,30],[3],[0,3,4,12,39],[3],[0,3,48],[2],[2]]
def aZf:=[[0],[2]]
def aZg:=[[0,1],[6,7],[6,20],[4,5],[4,5]]
def aZh:=kd [] [[0,0],[1,8],[0,2],[0,0,3],[0,3,12,13,14],[4,15],[1,5,12,13,14],[1,12,13,14],[4],[0,2]]
def aZi:=[[0,1],[6,7],[6,20],[4,5],[4,5]]
def aZj:=kd [] [[0,0],[1,8],[0,2],[0,0,3],[2,4],[3,5],[4,22],[4],[4],[0,2]]
def aZk:=[[0,1],[4]]
def aZl:=[[0,1],[0,1,10],[4],[0,1,12],[4],[0,1,5],[0,1,5,6],[0,1,5,6,7],[1,5,6,7,8],[4]]
def aZm:=[[0],[0,3],[0,3,10],[0,3,10,11],[2],[0,3,10,22],[2],[0,3,10,30],[2],[0,3,10,38],[2],[0,3,10,47],[2],[0,3,10,59],[0,3,4],[0,3,4,5],[0,3,4,5,65],[0,3,4,5],[0,3,4,5],[2],[0,3,86],[2],[2]]
def aZn:=kd [] [[0,1,2],[2,5],[3],[3,6],[4,13],[4],[4],[4],[0,4]]
def aZo:=[[0],[0,4],[0,4,5],[0,4,5],[2],[0,10],[2],[2]]
def aZp:=[[0,1],[4]]
def aZq:=[[0,1],[4]]
def aZr:=[[0],[0,3],[0,3,4],[0,3,4,12],[0,3,4,12,13],[2],[0,3,4,12,18],[3],[0,3,4,12,35],[0,3,4,43],[3],[3,55],[2],[2]]
def aZs:=[[0,3],[0,3,14],[4,5],[0,3,6],[6],[4,5]]
def aZt:=[[0],[2]]
def aZu:=[[0,2],[2]]
def aZv:=[[1,2],[1,2,4],[1,2,4,5],[2],[1,2,4,15],[2],[1,2,4,25],[1,2,4,25],[2],[1,2,30],[2],[2]]
def aZw:=[[0],[0]]
def aZx:=[[0,2],[2]]
def aZy:=[[1],[2]]
def aZz:=kd [] [[0,0,1],[2,20],[0,4,5],[0,0,1,6],[3,7],[4,8],[5,9],[6,31],[6,10],[7],[7,11],[8,49],[6],[6,10,11,49,60],[6,11],[6],[6,10,11,49,71],[10],[7,75],[6],[6],[4,9,10],[4,8,9],[6,10,11,87],[8,12],[6],[0,4,5]]
def aZA:=[[0],[2]]
def aZB:=kd [] [[0,1,2],[2,5],[3,12],[4,13],[0,4],[0,1,2,5,12,24],[0,4],[0,1,2,5,12,35],[5],[0,4],[0,1,2,5,41],[0,4],[1]]
def aZC:=[[],[0]]
def aZD:=kd [] [[0,0,1,2],[3,7],[0,2,7,8],[3,9],[4,17],[4],[4],[4],[0,6]]
def aZE:=[[0],[0],[0,3],[0,3,34],[0,3],[3],[2]]
def aZF:=kd [] [[0,0,1],[2,5],[3,6],[4,11],[4],[4],[0,4]]
def aZG:=[[0,1],[0,1,7],[4],[0,1,5],[0,1,5,14],[0,1,5,14,15],[4],[0,1,5,14,19],[4],[0,1,5,14,24],[4],[0,1,5,14,33],[4],[0,1,5,14,43],[4],[0,1,5,14,54],[4],[0,1,5,14,64],[4],[0,1,14,74],[0,1,14,74],[4],[0,1,14,87],[4],[0,1,14,97],[4],[0,1,114],[4],[4]]
def aZH:=[[0],[2]]
def aZI:=kd [] [[0,0,1],[2,5],[3,6],[4,13],[4],[4,7],[5],[5,8],[6,29],[6],[6],[4],[0,4]]
def aZJ:=[[0],[0,3],[0,3,11],[2]]
def aZK:=[[0,1],[0,1,11],[4],[0,1,17],[0,1,17,18],[4],[0,1,17,29],[4],[0,1,17,44],[4],[0,1,17,55],[4],[0,1,66],[4],[0,1,82],[4],[4]]
def aZL:=[[0],[0,7,8,9],[0,7,8,9,10],[0,4,7,8,9],[0,7,8,9,15],[2],[0,7,8,9],[6],[2]]
def aZM:=[[0,1,2],[6]]
def aZN:=kd [] [[0,0,2,4],[2],[2,18],[2,6],[3],[3,47],[2],[2,6,47,56],[3],[2],[2,6,47,80],[3,83],[2],[2],[2],[2,6,47,104],[2],[2,6,47,110],[2],[2,6,124],[2]]
def aZO:=[[0,2],[2]]
def aZP:=[[1,2,3],[1,2,5,6],[4]]
def aZQ:=[[1],[1,10],[1,10,11],[2,3],[1,10,15],[2,3],[1,17],[2,3],[1,4],[4,21,22,23],[4,21,22,23,24],[4,6,21,22,23],[4,7,8,21,22,23],[4,7,21,22,23,33],[2,3],[4,21,22,23],[4,21,22,23],[2,3]]
def aZR:=kd [] [[0,0],[1,3,4],[3,5],[4,16],[4],[4],[4,32],[4,6],[5],[5,45],[6,46],[5],[5,45,53],[5,53],[0,2],[0,0,3,4,5,6,7],[6,62],[6],[6],[0,2]]
def aZS:=kd [] [[0,0],[1,9],[0,2],[0,0,10,11,12],[4,13],[1,4,10,11,12],[5,18],[0,2],[0,0,4,10,11,12,20,21,22],[8,23],[2,5,6,10,11,12,20,21,22],[2,10,11,12,20,21,22,35],[0,2],[0,0,4,10,11,12,20,21,22],[1,10,11,12],[0,2]]
def aZT:=kd [] [[0,0,1,4],[1,4,5],[3,6],[2,6,23,24,25],[6,26],[3,8,23,24,25],[3,23,24,25],[6],[0,4]]
def aZU:=[[0,2],[2]]
def aZV:=kd [] [[0,1,2],[2,3],[0,2,3,8,9,10],[5,11],[2,5,8,9,10],[2,8,9,10],[5],[1]]
def aZW:=kd [] [[0,1,2],[2,3],[0,2,3,8,9,10],[5,11],[2,4,5,8,9,10],[2,8,9,10],[2,4,5,8,9,10,20],[2,8,9,10],[2,4,5,8,9,10,34],[2,8,9,10],[2,5,8,9,10,43],[2,8,9,10],[5],[1]]
def aZX:=kd [] [[0,1],[1,3],[2,13,14,15],[5,16],[2,5,13,14,15],[2,13,14,15],[5],[0,2]]
def aZY:=[[1,2],[1,2,4],[1,2,4,5],[2],[1,2,4,12],[2],[1,2,4,16],[2],[1,2,4,19],[2],[1,2,4,22],[2],[1,2,4,25],[2],[1,2,4,29],[2],[1,2,4,33],[1,2,38],[2],[2],[1,2,4,54],[2],[1,2,4,58],[2],[1,2,4,74],[2],[1,2,4,91],[2],[1,2,4,95],[2],[1,2,113],[2],[2]]
def aZZ:=kd [] [[0,1,2],[2,5],[1,5,16,17,18],[5,19],[2,7,16,17,18],[2,16,17,18],[5],[5],[0,4]]
def aZ0:=[[0],[0,9],[2],[0,3],[0,3,13],[0,3],[0,3,21],[2],[0,4,5],[2]]
def aZ1:=[[0,1,2],[6]]
def aZ2:=kd [] [[0,0],[1,3],[2,4],[3,11],[3],[3,5],[4,6],[5,27],[5],[5],[3],[0,2]]
def aZ3:=kd [] [[0,0,1],[2],[2,5],[3,11],[3],[3],[0,4]]
def aZ4:=kd [] [[0,0,1,3,6],[3,9],[4,10],[5,18],[5,21],[5,23],[0,8],[0,0,1,3,9,10],[5],[5,11],[6],[6,12],[7,50],[5],[5,11,12,50,58],[5],[5,11,12,50,65],[5,69],[0,8],[0,0,1,3,9,10],[5,11,12,72],[0,8],[1]]
def aZ5:=kd [] [[0,0,2,3,5],[4,9],[5,15],[5],[5],[0,8]]
def aZ6:=kd [] [[0,0],[1,12],[0,2],[0,0,3],[2,16],[2],[2,24],[0,2],[0,0,3,4],[3,32],[3],[3,53],[0,2],[1]]
def aZ7:=[[0],[2]]
def aZ8:=[[1,2],[4]]
def aZ9:=kd [] [[0,2,3],[2,5],[3,6],[4,13],[4],[4,7],[5,27],[5],[5,37],[5],[4,44],[4],[4],[0,4]]
def a0a:=kd [] [[0,2,3],[2,5],[3,6],[4,7],[5,18],[5],[5,22],[5],[5],[0,4]]
def a0b:=[[1,2],[1,2,5],[1,2,5,12],[1,2,5,12,13],[4],[1,2,5,12,22],[4],[1,2,5,12,27],[4],[1,2,5,12,30],[4],[1,2,5,12,36],[4],[1,2,5,12,42],[4],[1,2,5,12,45],[4],[1,2,5,12,48],[2,5,53],[4],[4],[1,2,5,12,71],[4],[1,2,5,12,76],[4],[1,2,5,12,95],[4],[1,2,5,12,115],[4],[1,2,5,12,120],[4],[1,2,5,139],[4],[4]]
def a0c:=kd [] [[0,0,1],[2,5],[3,6],[4,13],[4],[4,7],[5],[5,8],[6,29],[6],[6],[4],[0,4]]
def a0d:=[[0],[0,4],[0,4,5],[2],[0,4,11],[2],[0,17],[0,20],[2],[2]]
def a0e:=[[0,1],[0,1,6],[0,1,6,7],[4],[0,1,18],[4],[4]]
def a0f:=kd [] [[0,0,1,2,3],[4,9],[1,3,9,10],[4,21],[4],[4],[0,8]]
def a0g:=[[0],[2]]
def a0h:=kd [] [[0,0,1],[2,8],[3,9],[4],[2,5],[3,6],[4,21],[4],[0,5,6],[0,4],[0,0,1,8,36],[0,4],[0,0,1,8,43],[0,4],[0,0,1,8,53],[0,4],[0,0,1,63],[2,66],[0,4],[1]]
def a0i:=[[0,1],[0,1,6],[4],[4]]
def a0j:=[[1],[1,20],[2],[1,22],[1,22,23],[2],[1,22,35],[1,22,35],[2],[1,22,42],[2],[1,22,53],[2],[59],[2],[2]]
def a0k:=kd [] [[0,0],[1,12],[0,2,3],[0,0,4],[2,16,17,18],[5,19],[2,5,6,16,17,18],[4,7,16,17,18],[5,8,16,17,18],[9,30],[9],[9,43],[0,2,3],[0,0,4,5,6,7,8,16,17,18],[2,16,17,18],[5],[0,2,3]]
def a0l:=[[0,1],[]]
def a0m:=kd [] [[0,0,2,3,5],[4,8],[5,14],[5],[5]]
def a0n:=kd [] [[0,0,1,4],[3,5],[1,4,5,6],[2,6,25,26,27],[6,28],[3,8,25,26,27],[3,25,26,27],[6],[0,4]]
def a0o:=[[0],[4],[2]]
def a0p:=kd [] [[0,1],[1,3],[0,2],[0,1,3,5],[2],[2],[2,15],[2],[2,29],[2],[2,35],[2],[0,2]]
def a0q:=kd [] [[0,1,2,3],[3,7],[4,8],[5,16],[6,17],[7],[0,6],[0,1,2,3,7,8,16,22],[0,6],[0,1,2,3,7,8,16,38],[7],[0,2,8],[0,1,2,3,7,8,16,43],[0,2,7,50],[0,6],[0,2,8],[0,1,2,3,7,8,16,52],[0,2,8],[1,3,7,8,16,56],[6],[6],[1,8],[1,3,7,8,16,60],[0,6],[0,2,3,7,8,16,64],[1,8],[1,3,7,8,16,72],[1,8],[1,7,8,16,80],[1,83],[0,6],[0,2,8],[2,86],[0,6],[0,2,94],[0,6],[1]]
def a0r:=kd [] [[0,1],[1,3],[0,3,7,8,9],[4,10],[1,5,7,8,9],[1,7,8,9],[4],[0,2]]
def a0s:=[[1,2],[2]]
def a0t:=[[1,2],[2]]
def a0u:=kd [] [[0,0,1],[2,12],[3,13],[0,4],[0,0,1,15],[0,4],[0,0,1,5],[3,22],[3,29],[3],[3],[3,39,40,41],[6,42],[3,7,39,40,41],[7,49],[7],[3,39,40,41],[6],[3,8],[2,8],[3],[0,1,8,63,64,65],[5,66],[2,10,63,64,65],[6],[2,63,64,65],[5],[0,4]]
def a0v:=kd [] [[0,1,2],[2,3,4],[4,15],[4],[4,23],[3],[3,32],[0,2,3],[1]]
def a0w:=[[0,3,4],[0,3,4,8],[4],[4]]
def a0x:=kd [] [[0,0,1,4],[3,5],[0,1,4,5,9,10,11],[6,12],[3,6,7,9,10,11],[8,17],[8],[3,9,10,11],[6],[0,4]]
def a0y:=[[2],[2]]
def aLX:=[[1,2],[1,2,3],[1,2,3,21],[2,3],[2]]
def aLY:=kd [] [[0,1,2],[2,3],[3,10],[3],[0,2]]
def aLZ:=[[1],[1,20],[2],[1,22],[1,22,23],[2],[1,22,34],[1,22,34],[2],[1,22,41],[2],[1,52],[2],[2]]
def aL0:=kd [] [[0,0],[1,4],[2,5],[3,12],[3],[3,6],[4,7],[5,24],[5],[5,41],[0,2,3],[0,0,4,5,6,7],[3],[0,2,3]]
def aL1:=[[0],[0,8],[2],[0,3,4],[2]]
def aL2:=kd [] [[0,0],[1,9],[0,2],[0,0,3],[2,4],[3,14],[3],[3,5],[4,6],[5,24],[5],[5],[3],[0,2]]
def aL3:=[[1],[1,3,4],[1,3,4,5],[2]]
def aL4:=kd [] [[0,1,2,3],[3,7],[4,8],[5,18],[6,19],[7],[0,6],[0,1,2,3,7,8,18,24],[0,6],[0,1,2,3,7,8,18,36],[0,6],[0,1,2,3,7,8,18,51],[0,6],[0,1,2,3,7,8,18,66],[0,6],[0,1,2,3,7,8,18,81],[0,6],[0,1,2,3,7,8,18,100],[7],[7],[0,6],[0,1,2,3,7,8,18,105],[0,6],[0,1,2,3,7,8,18,109],[0,6],[0,1,2,7,8,18,145],[0,6],[0,2,7,8,18,160],[0,6],[0,2,174],[0,6],[1]]
def aL5:=kd [] [[0,0],[1,3],[2,4],[3,9],[3],[3],[0,2]]
def aL6:=kd [] [[0,1,2],[2,5],[3,6],[4,11],[4],[4],[0,4]]
def aL7:=[[1,3,5],[1,3,5,13],[6],[6]]
def aL8:=[[0],[0]]
def aL9:=kd [] [[0,2,3],[2,5],[3,10],[3],[2,6],[3,7],[4,18],[4],[4,28],[3],[3,39],[0,6],[0,4]]
def aMa:=[[1,2,3],[1,2,3,9],[6],[6]]
def aMb:=kd [] [[0,1,3,5],[3,7],[4,8],[5,13],[5],[5,17],[5],[5],[0,6]]
def aMc:=[[2,3],[2,3,5],[2,3,5,26],[4],[4]]
def aMd:=kd [] [[0,2,3],[2,5],[3,16],[3],[0,4]]
def aMe:=[[0],[2]]
def aMf:=[[0],[2]]
def aMg:=[[0],[2]]
def aMh:=[[0,1],[4]]
def aMi:=kd [] [[0,0,1],[2,11],[3,12],[0,4],[0,0,1,14],[0,4],[0,0,1,18],[2],[1,5,6],[1,6,34],[2],[1,7],[2,40],[0,4],[0,0,7,42],[3,43],[4],[4],[4],[2,43],[2,49],[0,4],[0,0,7,58],[0,4],[0,0,7,67],[0,4],[0,0,7,76],[0,4],[0,0,7,85],[0,4],[0,0,7,8],[3,96],[3],[3,104],[3],[3,9],[4],[0,7,8,9],[3,113],[3,10],[3],[0,4]]
def aMj:=kd [] [[0,0],[1,3],[0,3,6,7,8],[4,9],[1,5,6,7,8],[1,6,7,8,14],[4],[4],[0,2]]
def aMk:=kd [] [[0,0,2,3,9,30],[4,13,30],[0,2,3],[0,0,2,3,4,9,30],[5,17,18,19,30],[8,20,30],[4,5,6,9,17,18,19,30],[6,7,9,17,18,19,30],[5,7,9,17,18,19,28,30],[12],[12,37],[0,2,3],[0,0,2,3,4,5,7,9,17,18,19,28,30],[4,9,17,18,19,30],[9],[0,2,3]]
def aMl:=[[0],[2]]
def aMm:=[[1,2],[1,2,4],[1,2,4,5],[2],[1,2,4,14],[1,2,4,14],[1,2,4,14],[2],[1,2,4,31],[1,2,4,31],[2],[1,2,4,41],[2],[1,2,4,50],[2],[1,2,4,59],[2],[1,2,4,68],[1,2,4,68],[2],[1,2,4,78],[2],[1,2,4,97],[2],[1,2,107],[2],[2]]
def aMn:=[[0],[2]]
def aMo:=kd [] [[0,1,2],[2,3],[3,15],[4,16],[0,2,3],[0,1,2,3,15,20],[3],[3],[3],[0,2,3,42],[2],[0,1,2,3,15,51],[5],[0,2,3],[0,1,2,3,15,55],[0,2,3],[0,1,2,3,15,62],[0,2,3],[0,1,2,3,15,66],[5],[0,2,3],[0,1,2,3,15,71],[0,2,3],[0,1,2,3,15,75],[0,2,3],[0,1,2,3,15,87],[0,2,3],[0,1,2,3,90],[0,2,3],[1]]
def aMp:=kd [] [[0,1,2],[2,3],[3,15],[0,2,3],[0,1,2,3,15,17],[5],[0,2,3],[0,1,2,3,15,22],[3],[0,2,3,31],[2],[2],[0,1,2,3,15,36],[3],[0,2,3,50],[2],[2],[0,1,2,3,55],[0,2,3],[1]]
def aMq:=[[0],[2]]
def aMr:=[[0],[2]]
def aMs:=[[2,3,4],[2,3,4,8],[4],[4]]
def aMt:=[[0],[0]]
def aMu:=[[2],[2]]
def aMv:=[[1,2],[1,2,5],[2],[2]]
def aMw:=[[0],[0]]
def aMx:=[[1,2],[2]]
def aMy:=[[0],[0,3],[0,3,7],[0,3],[0,3,13],[2],[2]]
def aMz:=kd [] [[0,0],[1,4],[2,5],[3,12],[3],[3,6],[4,7],[5,24],[5],[5,41],[0,2,3],[0,0,4,5,6,7],[3],[0,2,3]]
def aMA:=kd [] [[0,1],[1,6],[2,7],[3],[0,2,3],[0,1,6,10],[3],[3],[0,2,3],[0,1,6,14],[3],[3],[3],[3],[3],[3],[3],[0,2,3],[0,1,6,23],[3],[3],[3],[0,2,3],[0,1,6,28],[0,2,3],[0,1,6,30],[1,4],[0,4,36],[0,2,3],[2],[0,1,6,40],[3],[0,2,3],[0,1,6,43],[0,2,3],[0,1,6,45],[0,2,3],[0,1,6,47],[3],[0,2,3],[0,1,6,53],[0,2,3],[0,1,6,63],[0,2,3],[0,73],[0,2,3],[2]]
def aMB:=[[1],[1,4],[1,4,5],[1,4,5],[2],[1,4,16],[2],[1,4,31],[2],[1,4,36],[2],[1,4,41],[2],[1,4,46],[2],[1,51],[2],[2]]
def aMC:=[[1],[1,4],[1,4,5],[1,4,5],[1,4,5],[1,4,5],[1,4,5],[1,4,5],[2],[1,4,20],[2],[1,4,31],[2],[1,4,42],[2],[1,4,53],[2],[1,4,64],[2],[1,4,74],[2],[1,84],[2],[2]]
def aMD:=[[0],[2]]
def aME:=[[0],[2]]
def aMF:=[[0],[2]]
def aMG:=[[2,3],[2,3,5],[4],[2,3,14],[4],[2,3,22],[4],[2,3,35],[4],[2,3,53],[4],[4]]
def aMH:=[[1,3,5],[3,5,7],[3,5,7,8],[3,5,7,8,19],[6],[3,5,7,24],[3,5,7,24,25],[6],[3,5,7,24,30],[3,5,7,24,30],[6],[3,5,7,24,36],[6],[3,5,7,24,50],[6],[3,5,7,24,64],[6],[3,5,7,24,78],[6],[3,5,7,24,103],[3,5,7,9],[3,5,7,9,122],[3,5,7,9],[6],[3,5,7,24,138],[6],[3,5,7,171],[3,5,7,176],[6],[6],[6]]
def aMI:=[[1,2],[1,2,11],[4],[4]]
def aMJ:=[[],[0]]
def aMK:=[[0,1],[4]]
def aML:=[[0],[2]]
def aMM:=[[1],[1,5],[2],[1,7],[1,7,8],[2],[1,7,20],[2],[1,7,29],[2],[1,7,38],[2],[1,7,47],[1,7,47],[2],[1,53],[2],[2]]
def aMN:=[[0],[2]]
def aMO:=[[0],[2]]
def aMP:=[[0],[3],[3,4],[2],[3,6],[2],[3,8],[3,8],[2],[3,11],[3,11],[3,11],[3,11],[3,11],[3,11],[2],[3,18],[2],[3,20],[3,20],[2],[3,23],[3,23],[3,23],[2],[27],[2],[2]]
def aMQ:=[[0],[2]]
def aMR:=[[0,1],[4]]
def aMS:=[[2,3],[2,3,5],[2,3,5,8],[4],[2,3,5,16],[4],[2,3,5,24],[4],[2,3,5,37],[4],[4]]
def aMT:=kd [] [[0,1,2],[2,3],[0,2,3,16,17],[4,18],[2,4,16,17],[2,16,17],[4],[1]]
def aMU:=kd [] [[0,2,3,4],[3,8],[4,9],[5],[5],[5],[0,4],[0,2,3,4,8,17],[0,4],[0,2,3,4,8,29],[5],[0,4],[0,2,3,4,8,42],[0,4],[0,2,3,4,8,53],[0,4],[0,2,3,4,8,64],[0,4],[0,2,3,4,8,72],[0,4],[0,2,3,4,8,77],[0,4],[0,2,3,4,92],[3,97],[0,4],[1],[0,2,4,5,6],[4,123],[0,4],[0,2,4,5,6,137],[0,4],[1]]
def aMV:=kd [] [[0,0],[0,3],[1,4],[2],[2],[2],[2],[2],[2],[2],[2],[2],[2],[2],[2],[2],[2],[2],[0,4],[0,2],[1]]
def aMW:=[[0],[2]]
def aMX:=[[0],[2]]
def aMY:=[[1],[1,3],[1,3,8],[1,3,8,9],[2],[1,3,8,24],[2],[1,3,8,35],[2],[1,3,8,42],[2],[1,8,49],[1,8,49],[2],[1,55],[2],[2]]
def aMZ:=[[0],[2]]
def aM0:=[[1],[2]]
def aM1:=[[1],[1,4],[1,4,5],[2],[1,4,7],[2],[1,4,9],[2],[1,4,11],[2],[4,16],[2],[4,18],[4,18],[2],[4,21],[2],[4,23],[4,23],[4,23],[4,23],[4,23],[4,23],[23],[2],[2]]
def aM2:=[[1,2],[1,2,4],[1,2,4,5],[2],[1,2,4,10],[2],[1,2,4,15],[2],[1,2,20],[2],[2]]
def aM3:=[[2,3,4,5],[8]]
def aM4:=[[0],[0,3],[2],[0,6],[2],[0,14],[2],[2]]
def aM5:=[[1,2],[4]]
def aM6:=kd [] [[0,1,3,5,6],[4,26],[0,6],[0,1,3,6,7],[4,40],[0,6],[0,1,3,6,7,40,42],[1,6,7],[0,6,7,46],[2],[0,1,3,6,7,40,48],[1,6,7],[0,6,7,52],[2],[0,1,3,6,7,40,54],[0,6,7,59],[1],[1,7],[0,1,3,6,7,40,62],[4,8,9],[4,9],[0,3,6,7,9,73],[3],[0,6,7],[2,40,80],[2],[2],[2,40,84],[4],[2],[2],[2,89],[2],[2],[2],[1]]
def aM7:=[[2,3],[2,3,31],[4],[2,3,5],[2,3,5,6],[2,3,5,44],[4],[2,3,51],[4],[2,3,63],[4],[2,8],[4]]
def aM8:=[[0,2],[2]]
def aM9:=[[1,3,5],[1,3,5,19],[6],[1,3,5,43],[6],[7],[6]]
def aNa:=kd [] [[0,3,4,5],[3,7],[0,4,7,8],[3,28],[4,29],[0,6],[0,4,7,8,28,36],[3,36],[0,6],[1]]
def aNb:=[[0,1],[4]]
def aNc:=[[0],[0,5,6],[0,5,6,7],[0,3,5,6],[0,5,6,14],[2],[0,5,6],[2]]
def aNd:=[[0],[3],[3,8],[2],[2]]
def aNe:=kd [] [[0,0,1],[2,17],[0,4],[0,0,1,5],[1,5,6],[3,27],[3,7],[1,6,7],[1,5,6],[2,40],[0,4],[0,0,5,8],[2,49],[2,9],[3,10],[3,60],[3],[0,5,9,11],[1,11,68],[0,4],[1]]
def aNf:=[[0,1],[4]]
def aNg:=[[0,1],[1,5],[5,12],[4],[4]]
def aNh:=[[0],[0,3],[2],[0,6],[2],[0,13],[2],[2]]
def aNi:=kd [] [[0,0,1],[2,7,8],[4,9],[2,5,7,8],[5,16],[0,4],[0,0,1,7,8],[0,4]]
def aNj:=[[1],[1,4],[1,4,5],[2],[1,4,7],[2],[1,4,9],[2],[1,4,11],[2],[4,16],[2],[4,18],[4,18],[2],[4,21],[2],[4,23],[4,23],[4,23],[4,23],[4,23],[4,23],[23],[2],[2]]
def aNk:=[[1],[2]]
def aNl:=kd [] [[0,1,3,5,6],[4,7],[2,6,7,8],[3,8,17],[0,6],[1]]
def aNm:=kd [] [[0,2,3,4],[3,5],[4],[4,6],[3,6,21],[4],[0,4]]
def aNn:=[[0],[0,3],[0,3,7],[0,3],[0,3,15],[2],[2]]
def aNo:=[[0],[3],[3,8],[2],[2]]
def aNp:=kd [] [[0,0,1],[2,9],[0,4],[0,0,1,5],[3,16],[3,6],[2,6,29],[0,4],[0,0,1,5],[1,5,33],[0,4],[0,0,5,43],[2,7],[3,55],[3],[3,62],[0,4],[1]]
def aNq:=[[0,1],[4]]
def aNr:=[[0,1],[1,5],[5,12],[4],[4]]
def aNs:=kd [] [[0,0,1],[2,5],[3,9],[3],[3,17],[0,4],[1]]
def aNt:=[[],[0]]
def aNu:=[[0],[3],[3,4],[2],[3,6],[2],[3,8],[3,8],[2],[3,11],[3,11],[3,11],[3,11],[3,11],[3,11],[2],[3,18],[2],[3,20],[3,20],[2],[3,23],[3,23],[3,23],[2],[27],[2],[2]]
def aNv:=[[],[0]]
def aNw:=[[],[0]]
def aNx:=[[0],[5],[5,6],[2,3],[5,8],[2,3],[5,10],[2,3],[5,12],[2,3],[5,14],[2,3],[5,16],[2,3],[18],[2,3],[2,3]]
def aNy:=[[0],[2]]
def aNz:=kd [] [[0,0,1],[2,6],[3,7],[4,8],[5,9],[6,15],[6],[6,10],[7,56],[3,8,9,10],[3,7,8,9],[0,4,5]]
def aNA:=[[1,3,5],[3,5,7],[3,5,7,8],[3,5,7,8,20],[6],[3,5,7,24],[3,5,7,24,25],[6],[3,5,7,24,34],[6],[3,5,7,24,43],[6],[3,5,7,24,52],[6],[3,5,7,24,65],[6],[3,5,7,24,78],[3,5,7,9],[6],[3,5,7,24,102],[6],[3,5,7,24,116],[6],[3,5,7,132],[3,7,10],[3,7,10,146],[7,10],[7,10],[6],[6]]
def aNB:=[[0],[2]]
def aNC:=[[0],[2]]
def aND:=[[0,1],[0,1,8],[0,1],[4]]
def aNE:=[[0,1],[0,1,10],[4],[4]]
def aNF:=kd [] [[0,0,1,2],[3,12],[0,6],[0,0,2,7],[3,24],[3],[3,27],[0,6],[0,0,2,7,36],[3],[0,6]]
def aNG:=[[0],[2]]
def aNH:=[[0],[2]]
def aNI:=kd [] [[0,1,3,5,6],[4,24],[0,6],[0,1,3,5,6,39],[0,6],[0,1,3,5,6,7],[5,53],[0,6,7],[0,1,3,5,6,7,53,75],[7],[7],[5,75],[0,6]]
def aNJ:=[[1,2],[4]]
def aNK:=[[0,2,5,7],[0,2,7,8,9],[0,2,8,9,10],[0,9,10,24],[],[]]
def aNL:=[[2,3],[2,3,31],[4],[2,3,5,6],[2,3,6,44],[4],[2,3,51],[4],[2,3,63],[4],[2,3,72],[4],[2,8],[4]]
def aNM:=[[0,2],[2]]
def aNN:=[[0],[2]]
def aNO:=[[0,1],[0,1,8],[0,1],[4]]
def aNP:=[[0,1],[0,1,12],[4],[4]]
def aNQ:=kd [] [[0,0,1,2],[3,12],[0,6],[0,0,2,7],[3,18],[3],[3,24],[4,25],[0,6],[0,0,2,7,24,30],[0,6],[0,0,2,7,32],[3],[3,39],[0,6],[1]]
def aNR:=[[0],[2]]
def aNS:=[[2,3,4,5],[3,9],[8]]
def aNT:=[[1,2],[4]]
def aNU:=kd [] [[0,1,2],[2,5],[3,6],[4,11],[4],[4,15],[4],[4],[0,4]]
def aNV:=kd [] [[0,3,4,5],[3,7],[4,19],[4],[4],[4],[0,6],[0,3,4,5,7,52],[4],[0,6]]
def aNW:=[[0],[2]]
def aNX:=[[1,2],[1,2,6],[1,2,6,7],[10],[4],[4],[1,2,6,11],[14],[4],[4],[1,2,6,15],[4],[1,2,6,17],[4],[1,2,19],[4],[4]]
def aNY:=kd [] [[0,0,4,5],[3,6],[4,13],[1,6],[1,4,5,6,13,18],[1,6],[1,4,5,6,13,26],[1,6],[1,4,5,6,13,34],[1,6],[1,4,5,6,13,42],[1,6],[1,4,5,6,13,50],[4],[1,6],[1,4,5,6,13,62],[4],[1,6],[1,4,5,6,74],[4],[1,6],[]]
def aNZ:=kd [] [[0,0,4,5],[3,6],[4,7],[5,17],[3,7],[3,27],[],[0,0,4],[1],[]]
def aN0:=kd [] [[0,0,1],[2,15],[0,4,5],[0,0,1,6,7],[4,16,17],[6,18],[4,8,9,16,17],[8,31],[4,16,17],[6],[0,4,5]]
def aN1:=[[0,1],[0,1],[1,8],[1,5,6],[1,8,9],[1,5,6],[1,8,11],[1,5,6],[1,8,13],[1,5,6],[1,8,15],[1,5,6],[1,8,17],[1,5,6],[1,8,19],[1,5,6],[1,21],[1,5,6],[5,6,24],[4],[4]]
def aN2:=kd [] [[0,0,2,3,6,9],[1,3,6,9],[4,18,19],[6,20],[4,10,18,19],[7,23],[7],[4,18,19],[6],[]]
def aN3:=kd [] [[0,0,4,5],[3,7],[3],[3,14],[3],[],[0,0,4,5,7,25],[5],[3],[],[0,0,4,5,7,38],[3],[],[0,0,4,5,7,48],[2],[],[0,0,4,5,7,60],[3,65],[2],[2],[],[0,0,4,5,81],[3],[3],[3],[3],[]]
def aN4:List (List (List Nat)):=[[],[],[],kp3,kp4,kp5,kp6,kp7,kp8,kp9,aZb,aZc,aZd,aZe,aZf,aZg,aZh,aZi,aZj,aZk,aZl,aZm,aZn,aZo,aZp,aZq,aZr,aZs,aZt,aZu,aZv,aZw,aZx,aZy,aZz,aZA,aZB,aZC,aZD,[],aZE,aZF,aZG,aZH,aZI,aZJ,aZK,aZL,aZM,aZN,aZO,aZP,aZQ,aZR,aZS,aZT,aZU,aZV,aZW,aZX,aZY,aZZ,aZ0,aZ1,aZ2,aZ3,aZ4,aZ5,aZ6,aZ7,aZ8,aZ9,a0a,a0b,a0c,[],[],[],a0d,a0e,a0f,a0g,a0h,a0i,a0j,a0k,a0l,a0m,a0n,a0o,a0p,a0q,a0r,a0s,a0t,a0u,a0v,a0w,a0x,a0y,aLX,aLY,aLZ,aL0,aL1,aL2,aL3,aL4,aL5,aL6,aL7,aL8,aL9,aMa,aMb,aMc,aMd,[],[],[],[],aMe,aMf,aMg,aMh,aMi,aMj,aMk,aMl,aMm,aMn,aMo,aMp,aMq,aMr,aMs,aMt,[],[],[],aMu,aMv,aMw,aMx,aMy,aMz,aMA,aMB,aMC,aMD,aME,aMF,aMG,aMH,aMI,aMJ,[],[],[],[],[],[],aMK,[],[],aML,aMM,aMN,aMO,aMP,aMQ,aMR,aMS,aMT,aMU,[],[],aMV,aMW,aMX,aMY,aMZ,aM0,aM1,aM2,aM3,aM4,aM5,aM6,aM7,aM8,aM9,aNa,[],[],[],[],aNb,[],aNc,aNd,aNe,aNf,aNg,aNh,aNi,aNj,aNk,aNl,aNm,[],[],aNn,aNo,aNp,aNq,aNr,aNs,aNt,aNu,aNv,aNw,aNx,aNy,aNz,aNA,aNB,aNC,aND,aNE,aNF,aNG,aNH,aNI,aNJ,aNK,aNL,aNM,aNN,aNO,aNP,aNQ,aNR,aNS,aNT,aNU,aNV,aNW,aNX,aNY,aNZ,aN0,aN1,[],aN2,aN3,[],[],[],[],[],[],[],[],[],[],[],[],[],[],[],[],[],[],[],[],[],[],[],[],[],[],[],[]]
def aN5(f:Nat):List Nat:=bif Nat.beq f 32 then[0] else bif Nat.beq f 61 then[1] else bif Nat.beq f 65 then[0] else bif Nat.beq f 67 then[0] else[]
def a0z(f:Nat):List Nat:=([(3,[16]),(5,[13]),(13,[51]),(16,[11,20,21,26]),(30,[7,12,14,17,22,24,29,35,44,46,48]),(57,[15,17,21,23,24,25,26,28]),(58,[17,29,31,40,47,49,54]),(60,[11,15,18,21,24,28,32,42,47,50,51,53,57,60,65,66,71,73,76,81,82,87,88,90,94,105,110,112,116,119]),(94,[5]),(96,[9,25,27,38,48,52]),(97,[10,12,17,19]),(98,[19,20,28,33,34,35]),(100,[4,9,10,15,17,23,28,30]),(101,[4,16,17,19,24,25,30,31,36,38]),(135,[11,12,15,16,18]),(141,[6,7,9,11]),(174,[16,22,25,26,28,35,38,39,41,47,50,52,57,61,63,66,69,71,76,81,82,85,86,89,91,98,101,105,107,110,114,116,119,122,133,136,156,157,160,161,162,169,172]),(208,[24,31]),(209,[25,28,30])]:List (Nat×List Nat)).foldr (λx r=>bif Nat.beq f x.1 then x.2 else r) []
def a0A(f d:Nat):List Nat:=bif mem? d (a0z f) then[] else List.range 200
def aN6(f:Nat):List Nat:=bif Nat.beq f 77 then[0,2] else bif Nat.beq f 206 then[0,1] else[]
def aN7(f:Nat):List Nat:=bif Nat.beq f 53 then[0] else[]
def aJm(f:Nat):List Nat:=bif Nat.beq f 8 then[17] else bif Nat.beq f 34 then[42] else bif Nat.beq f 49 then[42] else bif Nat.beq f 53 then[43] else bif Nat.beq f 66 then[43] else[]
def aN8:List (List Nat):=[[],[],[],[],[],[],[],[],[],[],[],[],[],[],[],[],[],[],[],[],[],[],[],[],[],[],[26,41,48]]
noncomputable def UO:Adv:=⟨λf r=>(aN4.getD f []).getD r [],λf=>aN5 f,a0A,λt=>(aN6 t),λf d=>mem? d (aJm f),λf=>aN7 f,λf d=>mem? d (aN8.getD f [])⟩
theorem zaN:(!true)=false:=rfl
theorem zaO:∀n:Nat,n≤n:=Nat.le_refl
theorem zaP:∀{A B:Type}{l:List A}(f:A->B),(l.map f).length=l.length:=fun f=>List.length_map f
abbrev zaw:=Int×Int×aA×au×Int
abbrev zax:=Bool×au×Int×Int×au
abbrev zay:=Int×au×Int×Int×au
abbrev zaz:=au×au×Bool
abbrev zaA:=Int×Int×Int×Int×aA×aA×Int×Int×aA×aA
abbrev zaB:=Int×Int×Int×Int×aA×aA×Int×Int×aA×aA×au
abbrev zaC:=au×Int×Int×au×Int×Int×aA
abbrev zaD:=au×Int×Int×au×Int×Int×aA×au
abbrev zaE:=au×au×Int×Int×Int×Int×aA×Int×Int×Int×aA×Int
abbrev zaF:=au×au×Int×Int×Int×Int×aA×Int×Int×Int×aA×Int×au
abbrev zaG:=au×Int×au×Int×Int×aA
abbrev zaH:=au×Int×au×Int×Int×aA×au
abbrev zaI:=au×au×Int×Int×Int×Int×aA×aA×Int×Int×aA×aA
abbrev zaJ:=au×au×Int×Int×Int×Int×aA×aA×Int×Int×aA×aA×au
abbrev zaK:=au×au×Int×Int
abbrev zaL:=Int×Bool×Bool×Bool×Bool
abbrev zaM:=Int×Int×aA×aA×au
abbrev zaa:=au->Bool->Int->Option (au)
abbrev zab:=au->Bool->Int->Int->Bool->Bool->Bool->Bool->Option (au)
abbrev zac:=Int->au->Int->Int->Option zaK
abbrev zad:=Int->Int->aA->aA->au->Option zaw
abbrev zae:=Int->Int->aA->aA->au->Int->Bool->Bool->Bool->Bool->Option zaw
abbrev zaf:=au->Bool->Int->Int->aA->aA->au->Option (au)
abbrev zag:=Int->Int->aA->aA->au->Int->Bool->Bool->Bool->Bool->au->au->Bool->Option zaz
abbrev zah:=au->Bool->au->Option (au)
abbrev zai:=Int->Int->aA->aA->au->Int->Int->Bool->Bool->Bool->Bool->au->au->Bool->Option zaz
abbrev zaj:=Int->Int->aA->aA->au->Int->Int->Bool->Bool->Bool->Bool->Option zaw
abbrev zak:=au->Bool->Int->Int->aA->aA->au->Int->Bool->Bool->Bool->Bool->Option (au)
abbrev zal:=Int->Int->aA->aA->au->Int->Int->Int->Bool->Bool->Bool->Bool->au->au->Bool->Option zaz
abbrev zam:=au->Bool->au->Int->Bool->Bool->Bool->Bool->Option (au)
abbrev zan:=Int->Int->aA->au->Int->au->Option (au)
abbrev zao:=au->Int->Option zaw
abbrev zap:=Int->Int->aA->au->Int->Option (aA×Bool)
abbrev zaq:=au->Int->Option zaM
abbrev zar:=Int->Int->aA->aA->au->Option (Int)
abbrev zas:=au->Option zaw
abbrev zat:=au->Bool->Int->aA->Int->au->Int->Option (au)
abbrev zau:=au->Bool->Int->Int->aA->aA->au->aA->aA->Option (au)
abbrev zav:=Int->Int->Int->au->Int->Int->Option zaK
noncomputable def X0:Ctx:=⟨Tryz.prog,UO,λf=>bif Nat.beq f 127 then some Prim.lu else bif Nat.beq f 19 then some Prim.strings_Split else bif Nat.beq f 125 then some Prim.strings_Repeat else bif Nat.beq f 95 then some Prim.strings_Join else bif Nat.beq f 124 then some Prim.strings_Contains else none,λg=>bif Nat.beq g 3 then some PW else bif Nat.beq g 4 then some Gm else bif Nat.beq g 5 then some V9 else none,λg=>bif Nat.beq g 0 then true else false⟩
def fTa(S:dQ)(C:∀{R:Type},S.α->(S.ρ->Option R)->Option R)(K:List (FE X0):=[])(L:List (LE X0 S.f):=[])(hn:∀{R:Type} x (k:S.ρ->Option R),C x k=(C x some).bind k:=by intros;exact zbn)
  (hE:∀{R:Type} x (k:List Row->List Cell->Option R),bodyC X0 (kt K) (lt L) S.f (S.p.enc x.1) (S.q.enc x.2) k=C x (λr=>k (S.enc r).1 (S.enc r).2):=by intros;kernel_rfl)
  (hL:loops (codeOf X0.P S.f)=L.map LE.c:=by kernel_rfl) (hd:apart (L.map LE.n)=true:=by kernel_rfl) (hp:X0.Zx S.f=none:=by kernel_rfl):S.ok X0 λx=>C x some:=fnS C K L hn hE hL hd hp (λ_=>rfl)
abbrev rc:=λn a=>sg n a [] (ρ:=Bool) λr=>([[D.bool r]],[])
abbrev re:=λn a=>sg n a [] (ρ:=au×Bool) λr=>([[D.sl true 1 r.1],[D.bool r.2]],[])
abbrev rf:=λn a=>sg n a [] (ρ:=Int) λr=>([[D.int .i64 r]],[])
abbrev rg:=λn a=>sg n a [] (ρ:=aA) λr=>([[D.str r]],[])
abbrev rh:=λn a=>sg n a [] (ρ:=Bool×Bool×Bool×Int×Int) λr=>([[D.bool r.1,D.bool r.2.1,D.bool r.2.2.1,D.int .i64 r.2.2.2.1,D.int .i64 r.2.2.2.2]],[])
abbrev rj:=λn a=>sg n a [] (ρ:=Int×Int×aA×aA×au) λr=>([[D.int .i64 r.1,D.int .i64 r.2.1,D.str r.2.2.1,D.str r.2.2.2.1,D.sl true 5 r.2.2.2.2]],[])
abbrev rk:=λn a=>sg n a [] (ρ:=Int×Int×aA×au×Int) λr=>([[D.int .i64 r.1,D.int .i64 r.2.1,D.str r.2.2.1,D.sl true 5 r.2.2.2.1,D.int .i64 r.2.2.2.2]],[])
abbrev rl:=λn a=>sg n a [] (ρ:=Int×Bool×Bool×Bool×Bool) λr=>([[D.int .i64 r.1,D.bool r.2.1,D.bool r.2.2.1,D.bool r.2.2.2.1,D.bool r.2.2.2.2]],[])
abbrev rm:=λn a=>sg n a [] (ρ:=Int×Int×aA×au×Int) λr=>([[D.int .i64 r.1,D.int .i64 r.2.1,D.str r.2.2.1,D.sl false 5 r.2.2.2.1,D.int .i64 r.2.2.2.2]],[])
abbrev rn:=λn a=>sg n a [] (ρ:=Int×aA×Int) λr=>([[D.int .i64 r.1,D.str r.2.1,D.int .i64 r.2.2]],[])
abbrev rp:=λn a=>sg n a [] (ρ:=Int×Int) λr=>([[D.int .i64 r.1],[D.int .i64 r.2]],[])
abbrev rq:=λn a=>sg n a [] (ρ:=au) λr=>([[D.sl true 4 r]],[])
abbrev rr:=λn a=>sg n a [] (ρ:=aA×Bool) λr=>([[D.str r.1],[D.bool r.2]],[])
abbrev rt:=λn a=>sg n a [] (ρ:=au) λr=>([[D.sl true 1 r]],[])
abbrev rv:=λn a=>sg n a [] (ρ:=au) λr=>([[D.sl true 3 r]],[])
abbrev _root_.Prod.va{A B C D:Type _}(x:A×B×C×D):D:=x.2.2.2
abbrev _root_.Prod.wa{A B C D E F G H I:Type _}(x:A×B×C×D×E×F×G×H×I):I:=x.2.2.2.2.2.2.2.2
abbrev zaQ:=λn a=>sg n a [cB 45 [pL false 1,pI,pI]] (ρ:=Int×au×Int×Int) λr=>([[D.int .i64 r.1]],[Cell.box 45 [V.d (D.sl false 1 r.2.1),V.d (D.int .i64 r.2.2.1),V.d (D.int .i64 r.2.2.2)]])
abbrev zaR:=λn a=>sg n a [cB 45 [pL false 1,pI,pI]] (ρ:=aA×au×Int×Int) λr=>([[D.str r.1]],[Cell.box 45 [V.d (D.sl false 1 r.2.1),V.d (D.int .i64 r.2.2.1),V.d (D.int .i64 r.2.2.2)]])
abbrev zaS:=λn a=>sg n a [cB 45 [pL false 1,pI,pI]] (ρ:=au×au×Int×Int) λr=>([[D.sl true 5 r.1]],[Cell.box 45 [V.d (D.sl false 1 r.2.1),V.d (D.int .i64 r.2.2.1),V.d (D.int .i64 r.2.2.2)]])
abbrev zaT:=λn a=>sg n a [] (ρ:=au) λr=>([[D.sl true 5 r]],[])
abbrev zaU:=λn a=>sg n a [cB 45 [pL false 1,pI,pI]] (ρ:=Bool×au×au×Int×Int) λr=>([[D.sl r.1 5 r.2.1]],[Cell.box 45 [V.d (D.sl false 1 r.2.2.1),V.d (D.int .i64 r.2.2.2.1),V.d (D.int .i64 r.2.2.2.2)]])
abbrev zaV:=λn a=>sg n a [cB 206 [pL true 3,pL true 2,pB]] (ρ:=au×au×Bool) λr=>([],[Cell.box 206 [V.d (D.sl true 3 r.1),V.d (D.sl true 2 r.2.1),V.d (D.bool r.2.2)]])
abbrev zaW:=λn a=>sg n a [cB 77 [pL true 1,pI,pL true 7]] (ρ:=au×Int×au) λr=>([],[Cell.box 77 [V.d (D.sl true 1 r.1),V.d (D.int .i64 r.2.1),V.d (D.sl true 7 r.2.2)]])
abbrev zaX:=[pI,pI,pS,pS,pL false 1]
abbrev zaY:=[pI,pI,pS,pS,pL false 5]
abbrev zaZ:=(cA false true 0 1)
abbrev zba:=[pI,pB,pB,pB,pB]
abbrev zbb:=(cA false false 0 5)
abbrev zbc:=[pI,pI,pS,pL false 5,pI]
abbrev zbd:=(cB 45 [pL false 1,pI,pI])
abbrev zbe:=(cB 58 [pI,pI,pS,aco 5,pI])
abbrev zbf:=(cA false false 0 1)
abbrev zbg:=[pP 100000 0,pI]
abbrev zbh:=(cB 64 [pL false 5,pB])
abbrev zbi:=(cA false false 0 4)
abbrev zbj:=[pI,pI,pS,pL false 1]
abbrev zbk:=[pI,pI,pS,pS,pO 300002 0]
abbrev zbl:=(cA false true 0 3)
abbrev zbm{A B C D E F:Type}(f:A->B->C->D->E)(x:A×B×C×D×F):E:=f x.1 x.2.1 x.2.2.1 x.2.2.2.1
theorem zbn{P:Prop}(h:P:=by repeat' first|(with_reducible first|apply fD|apply I4|apply I5|apply I7|apply I8)|intro _|apply fD|rfl):P:=h
abbrev S.Wh:=rc 4 [pL false 1]
abbrev S.J5:dQ:=sg 10 [pL false 1] [] (ρ:=au×Int×Int) λr=>([[D.sl false 1 r.1,D.int .i64 r.2.1,D.int .i64 r.2.2]],[])
abbrev S.pX:=zaQ 40 [pP 100000 0]
abbrev S.aV:=zaQ 20 zbg
abbrev S.iR:=zaR 25 [pP 100000 0,pL false 1]
abbrev S.J6:=zaR 121 [pP 100000 0]
abbrev S.J7:=zaR 122 [pP 100000 0]
abbrev S.lQ:dQ:=sg 12 zbg [cB 45 [pL false 1,pI,pI]] (ρ:=Bool×au×Int×Int) λr=>([[D.bool r.1]],[Cell.box 45 [V.d (D.sl false 1 r.2.1),V.d (D.int .i64 r.2.2.1),V.d (D.int .i64 r.2.2.2)]])
abbrev S.J8:=zaR 123 [pP 100000 0]
abbrev S.jR:=zaR 43 [pP 100000 0]
abbrev S.BJ:=zaS 78 [pP 100000 0]
abbrev S.yH:=zaT 44 [pL false 5,pI]
abbrev S.bG:=zaT 22 [iY zaX,pL false 1]
abbrev S.DV:=zaS 79 zbg
abbrev S.fP:=zaQ 24 [pP 100000 0,pL false 1]
abbrev S.BK:=zaQ 81 [pP 100000 0]
abbrev S.eP:=zaS 42 zbg
abbrev S.oK:dQ:=sg 80 [pP 100000 0,pI,pI,pI] [cB 45 [pL false 1,pI,pI]] (ρ:=au×au×Int×Int) λr=>([[D.sl true 1 r.1]],[Cell.box 45 [V.d (D.sl false 1 r.2.1),V.d (D.int .i64 r.2.2.1),V.d (D.int .i64 r.2.2.2)]])
abbrev S.vJ:=zaS 82 zbg
abbrev S.vK:=zaS 83 zbg
abbrev S.qX:=zaS 46 zbg
abbrev S.mF:=zaS 41 zbg
abbrev S.Gn:=zaS 21 [pP 100000 0]
abbrev S.oL:=zaS 11 [pP 100000 0]
abbrev S.BL:=zaS 45 [pP 100000 0]
abbrev S.DW:=zaS 23 [pP 100000 0]
abbrev S.Gp:=zaU 26 [pP 100000 0]
abbrev S.yY:=zaU 13 [pP 100000 0]
abbrev S.vM:=zaQ 14 [pP 100000 0]
abbrev S.wI:dQ:=sg 5 [pL false 1] [] (ρ:=Bool×au×Int) λr=>([[D.sl r.1 5 r.2.1],[D.int .i64 r.2.2]],[])
abbrev S.lu:=re 127 [pL false 5]
abbrev S.BM:=rc 89 [pL false 5]
abbrev S.bK:=rc 48 [pI,pI,pI]
abbrev S.fC:=rc 128 [pI]
abbrev S.rU:=rc 227 [pI]
abbrev S.vN:=rc 247 [pI]
abbrev S.lF:=rc 226 [pI]
abbrev S.wJ:=rc 199 [pS]
abbrev S.slices_Index:=rf 205 [pL false 1,pS]
abbrev S.wL:=rf 200 [pS]
abbrev S.slices_Contains:=rc 171 [pL false 1,pS]
abbrev S.nU:=rc 167 [pS]
abbrev S.lq:=rc 165 [pS]
abbrev S.strings_Contains:=rc 124 [pS,pS]
abbrev S.nJ:=rf 229 [pS,pI]
abbrev S.jf:=rf 228 [pS,pI]
abbrev S.Gq:=rf 201 [pS,pI]
abbrev S.qx:=rf 230 [pS,pI,pI]
abbrev S.Gs:=rf 202 [pS,pI]
abbrev S.Gt:=rf 203 [pS,pI]
abbrev S.qR:=rc 231 [pI]
abbrev S.nV:=rc 232 [pI]
abbrev S.jI:=rg 204 [pI]
abbrev S.vO:=rc 166 [iY [pI,pS,pI]]
abbrev S.l9:=rc 168 [pI]
abbrev S.ou:=rf 169 [pI]
abbrev S.yZ:=rc 170 [pI]
abbrev S.jY:=rh 129 [iY zaX]
abbrev S.jS:=rc 130 [pI]
abbrev S.jZ:=rh 131 [iY zaX]
abbrev S.kC:=rh 132 [iY zaX]
abbrev S.iZ:=rc 90 [iY zaX]
abbrev S.rV:=rc 133 [pI]
abbrev S.Gu:=rc 134 [pI]
abbrev S.bF:=rc 91 [iY zaX,pI,pI]
abbrev S.qY:=rj 55 [pL false 5,pI]
abbrev S.wM:=rj 29 [pL false 5]
abbrev S.mO:=rf 92 [iY zaY]
abbrev S.Gv:=rc 54 [pL false 5]
abbrev S.zM:=rc 28 [pL false 5]
abbrev S.aU:=rk 56 [pS]
abbrev S.EP:=rk 31 []
abbrev S.xZ:=rl 136 []
abbrev S.kT:dQ:=sg 173 [iY zaY] [] (ρ:=Int×Int×aA×aA×au) λr=>([[D.int .i64 r.1,D.int .i64 r.2.1,D.str r.2.2.1,D.str r.2.2.2.1,D.sl true 1 r.2.2.2.2]],[])
abbrev S.oZ:=rf 206 [iY zaX]
abbrev S.DY:=rc 207 [iY zba]
abbrev S.IL:=rc 172 [iY zaX,iY zba]
abbrev S.ER:=rk 142 []
abbrev S.J9:=rl 99 [pI]
abbrev S.dY:=rk 32 [pL true 5]
abbrev S.zC:=rk 93 [iY zbc]
abbrev S.zN:=rk 143 [iY zbc]
abbrev S.qI:=rm 98 [pL false 5,av6 99 [] []]
abbrev S.y5:=rf 252 [pI,pI]
abbrev S.y7:=rf 248 [iY zaX,pI]
abbrev S.y8:=rl 233 [iY zaX,pI,iY zba]
abbrev S.rW:=rc 234 [iY zaX,pI]
abbrev S.Gw:=rm 208 [iY zaY,pI,iY zba]
abbrev S.bT:=zaV 253 [pP 100000 0,pL false 3]
abbrev S.lG:=rn 237 [pI]
abbrev S.pY:=zaV 254 [pP 100000 0,iY zaY,pI,pI,iY zba]
abbrev S.nZ:=zaV 255 [pP 100000 0,iY zaY,iY zba]
abbrev S.qg:=zaV 249 [pP 100000 0,iY zaY,iY zba]
abbrev S.sK:=zaV 250 [pP 100000 0,iY zaY,iY zba]
abbrev S.kH:=zaV 235 [pP 100000 0,iY zaY,pI,iY zba]
abbrev S.jk:=rc 197 [pS,pS]
abbrev S.strings_HasPrefix:=rc 162 [pS,pS]
abbrev S.Lh:=rp 251 [pS,pI]
abbrev S.vP:=rc 236 [iY [pI,pS,pI],iY [pI,pS,pI]]
abbrev S.DZ:=rm 209 [iY zaY,iY zba]
abbrev S.BN:=rm 174 [iY zaY,iY zba]
abbrev S.je:=rm 135 [iY zaY,iY zba]
abbrev S.nK:=rm 94 [iY zaY]
abbrev S.qZ:=rl 140 [pI]
abbrev S.sN:=rm 98 [pL false 5,av6 140 [] []]
abbrev S.y9:=rm 96 [iY zaY]
abbrev S.wO:=rm 141 [iY zaY]
abbrev S.yI:=rm 97 [pS,iY zaY]
abbrev S.zO:=rm 100 [iY zaY]
abbrev S.GV:=rm 101 [iY zaY]
abbrev S.qJ:=rm 60 [iY zaY]
abbrev S.kD:=rm 57 [iY zaY]
abbrev S.yJ:=rm 58 [iY zaY]
abbrev S.strings_Join:=rg 95 [pL false 1,pS]
abbrev S.Gx:=rg 59 [iY zaY]
abbrev S.BO:=rm 30 [iY zaY]
abbrev S.qK:=rq 61 [iY zbc,pL true 4]
abbrev S.vS:=rq 33 [iY zbc]
abbrev S.qL:=rq 16 [pL false 5]
abbrev S.wP:=rc 84 [iY zbj]
abbrev S.qy:=re 85 [pL false 4]
abbrev S.D5:=rc 47 [pL false 4]
abbrev S.zf:=rf 126 [pL false 4]
abbrev S.xP:=rk 88 [pL false 4,pI]
abbrev S.Ko:=rk 50 [pL false 4]
abbrev S.strings_Repeat:=rg 125 [pS,pI]
abbrev S.mW:=zaW 86 zbg
abbrev S.jl:=zaW 87 [pP 100000 0,iY zbc,pI,pB]
abbrev S.oQ:=rr 52 [iY zbc]
abbrev S.oM:=rf 53 [pR 0]
abbrev S.sO:dQ:=sg 51 [iY zbc,pKp (pP 100000 0),pP 100001 0] [cB 77 [pL true 1,pI,pL true 7],cB 3 [pI]] (ρ:=Bool×au×Int×au×Int) λr=>([[D.bool r.1]],[Cell.box 77 [V.d (D.sl true 1 r.2.1),V.d (D.int .i64 r.2.2.1),V.d (D.sl true 7 r.2.2.2.1)],Cell.box 3 [V.d (D.int .i64 r.2.2.2.2)]])
abbrev S.xQ:dQ:=sg 49 [pP 100000 0,iY zbc,av6 51 [] [pKp (pP 100000 0),pP 100001 0]] [cB 77 [pL true 1,pI,pL true 7],cB 3 [pI]] (ρ:=au×Int×au×Int) λr=>([],[Cell.box 77 [V.d (D.sl true 1 r.1),V.d (D.int .i64 r.2.1),V.d (D.sl true 7 r.2.2.1)],Cell.box 3 [V.d (D.int .i64 r.2.2.2)]])
abbrev S.zh:=rr 27 [pL false 4,pI]
abbrev S.qB:=rr 15 [pL false 4,pI]
abbrev S.zQ:=rr 6 [pL false 5,pI]
abbrev S.dF:=rc 63 [pI,pI,pI]
abbrev S.D6:=re 145 [pL false 5]
abbrev S.vT:=rc 104 [pL false 5]
abbrev S.BP:=rf 105 [pL false 5]
abbrev S.dD:=rp 146 [iY zaX]
abbrev S.yK:=rc 177 [pI]
abbrev S.qM:=rc 178 [pI]
abbrev S.eX:=rc 147 [iY zaX]
abbrev S.rX:=rc 238 [pI]
abbrev S.vU:=rc 242 [pI]
abbrev S.lH:=rc 223 [pI]
abbrev S.wQ:=rc 212 [pS]
abbrev S.yL:=rt 220 []
abbrev S.zi:=rf 217 [pL false 1,pS]
abbrev S.wR:=rf 213 [pS]
abbrev S.xR:=rt 218 []
abbrev S.mX:=rc 181 [pS]
abbrev S.kF:=rc 179 [pS]
abbrev S.vV:=rc 144 [pS]
abbrev S.jT:=rf 240 [pS,pI]
abbrev S.eY:=rf 239 [pS,pI]
abbrev S.Gy:=rf 214 [pS,pI]
abbrev S.rY:=rf 241 [pS,pI,pI]
abbrev S.Gz:=rf 215 [pS,pI]
abbrev S.GH:=rf 216 [pS,pI]
abbrev S.yM:=rt 221 []
abbrev S.kW:=rg 186 [pI]
abbrev S.nM:=rc 180 [iY [pI,pS,pI]]
abbrev S.cu:=rc 148 [iY zaX]
abbrev S.aH:=rc 106 [iY zaX]
abbrev S.rZ:=rc 149 [pI]
abbrev S.mg:=rc 150 [pI]
abbrev S.GI:=rc 151 [pI]
abbrev S.aQ:=rc 107 [iY zaX,pI,pI]
abbrev S.GK:=rc 68 [pL false 5]
abbrev S.zS:=rc 35 [pL false 5]
abbrev S.aI:=rq 69 [pS]
abbrev S.GX:=rt 109 [iY [pL false 5,pB],pL false 1]
abbrev S.qN:=rq 37 []
abbrev S.su:=rq 74 [pL false 4,pI]
abbrev S.aN:=rq 38 [pI,pI,pL false 1]
abbrev S.zk:=rq 108 [pL false 1]
abbrev S.nD:=rq 70 [iY [pL false 5,pB],pI]
abbrev S.jW:=rl 111 []
abbrev S.D7:=rc 182 [iY zba]
abbrev S.vW:=rf 219 [pI]
abbrev S.mG:=rf 183 [iY zaX]
abbrev S.IQ:=rc 152 [iY zaX,iY zba]
abbrev S.dw:=rn 184 [iY zaX]
abbrev S.vX:=rq 155 []
abbrev S.kX:=rq 114 [iY [pL false 5,pB],pL false 1,iY zba]
abbrev S.D8:=rq 185 [iY [pL false 5,pB],iY zaX,pS,pS]
abbrev S.zT:=rq 187 [iY [pL false 5,pB],pI]
abbrev S.yN:=rp 222 [pI]
abbrev S.gG:=rl 188 [iY zaX,pI,iY zba]
abbrev S.gI:=rn 190 [pI]
abbrev S.BQ:=rv 245 [iY [pL false 5,pB],pL false 1]
abbrev S.D9:=rv 243 [iY [pL false 5,pB],iY [pI,pS,pI],pL false 1,pI]
abbrev S.zU:=rv 244 [iY [pL false 5,pB],pI]
abbrev S.Ea:=rv 246 [iY [pL false 5,pB],iY zaX,iY zba]
abbrev S.BR:=rv 225 [iY [pL false 5,pB],pI,iY zba]
abbrev S.sQ:=rv 191 [iY [pL false 5,pB],pI,iY zba]
abbrev S.Lj:=rp 224 [pS,pI]
abbrev S.vY:=rc 189 [iY [pI,pS,pI],iY [pI,pS,pI]]
abbrev S.Kq:=rq 192 [iY [pL false 5,pB],iY zaX,iY zba]
abbrev S.BU:=rq 153 [iY [pL false 5,pB],pI,iY zba]
abbrev S.iq:=rq 110 [iY [pL false 5,pB],pI,iY zba]
abbrev S.Eb:=rq 71 [iY [pL false 5,pB],iY zaX]
abbrev S.GY:=rq 72 [iY [pL false 5,pB],iY zaX]
abbrev S.zl:=rq 112 [iY [pL false 5,pB],iY zaX]
abbrev S.sS:=rq 154 [iY [pL false 5,pB],pI]
abbrev S.yO:=rq 113 [iY [pL false 5,pB],pS,pL false 1]
abbrev S.PD:=rq 115 [iY [pL false 5,pB],iY zaX]
abbrev S.Kr:=rq 116 [iY [pL false 5,pB],iY zaX]
abbrev S.GZ:=rq 73 [iY [pL false 5,pB],pI]
abbrev S.oz:=rq 36 [iY [pL false 5,pB],pI]
abbrev S.qO:=rq 18 [pL false 5]
abbrev S.BX:=rc 102 [iY zbj]
abbrev S.wS:=re 103 [pL false 4]
abbrev S.Ec:=rc 62 [pL false 4]
abbrev S.zn:=rt 64 [pL false 4]
abbrev S.vZ:=rt 65 [pL true 1,pI]
abbrev S.kY:=rv 67 [pL true 3,iY zbj,pI,pB]
abbrev S.yP:=rc 66 [pL false 4,pL false 3,iY [pI,pI,pB],pI]
abbrev S.zo:=rr 34 [pL false 4,pI]
abbrev S.wo:=rr 17 [pL false 4,pI]
abbrev S.zV:=rr 7 [pL false 5,pI]
abbrev S.strings_Split:=rt 19 [pS,pS]
abbrev S.BZ:=rt 8 [pS]
abbrev S.wU:=rf 9 [pL false 5,pI]
abbrev S.zW:=rc 3 [pL false 1]
abbrev M.YR(code:au)(k:Bool->Option R):=k (decide ((↑code.length:Int)>1048576))
def M.Wh code:=M.YR code some
def C.Wh:=fTa S.Wh (λx=>M.YR x.1.1)
def M.Ba(code:au)(s:Int×Int)(kn:Int×Int->Option R)(ke:Int×Int->Option R):Option R:=match s with
 |(h',i)=>bif decide (i<(↑code.length:Int)) then(bif decide (i<4000) then((idx code i).bind λa=>(bM IntKind.u8 a 0).bind λb=>kn (i64.wrap (↑(BitVec.ofInt 64 (i64.wrap (i64.wrap (i64.wrap (h' * 131)+i64.wrap b)+7)) &&& BitVec.ofInt 64 1073741823).toNat:Int),i64.wrap (i+1))) else ke (h',i)) else ke (h',i)
def M.Ii code s:=M.Ba code s (λs=>some (Sum.inl s)) λt=>some (Sum.inr t)
def M.Tj code s:=dU (M.Ii code) s
def F.Tj:LE X0 10:=le 3 (Gj [bH 0 (pL false 1),bH 3 pI,bH 4 pI] []) (λx=>(x.1.2.1,x.1.2.2.1)) (λx s=>((x.1.1,s.1,s.2,()),())) (λx=> .leaf (Int×Int) (λt=>(Ex.exit 0,⟨[(0,F9 1 x.1.1),(3,iQ t.1),(4,iQ t.2),(15,uX false)],[]⟩))) (λx=>M.Ba x.1.1) [] [] (by rintro _ _ ⟨_,_⟩ _ _<;>simp only[M.Ba,nb]<;>rfl)
abbrev M.Vl(code:au)(k:au×Int×Int->Option R):=(M.Tj code (i64.wrap (10101+(↑code.length:Int)),0)).bind λa=>k (code,0,a.1)
def M.J5 code:=M.Vl code some
def C.J5:=fTa S.J5 (λx=>M.Vl x.1.1) [] [F.Tj]
abbrev M.Tq(c:au)(c1 c2:Int)(k:Int×au×Int×Int->Option R):=cond (decide (c1<(↑c.length:Int))) ((idx c c1).bind λa=>(bM IntKind.u8 a 0).bind λb=>k (i64.wrap (↑(BitVec.ofInt 64 (i64.wrap (i64.wrap (↑(BitVec.ofInt 64 (i64.wrap (↑(BitVec.ofInt 64 ((i64.wrap (i64.wrap (c2 * 6364136223846793005)+1442695040888963407)).fdiv 8589934592) ^^^ BitVec.ofInt 64 ((i64.wrap (i64.wrap (c2 * 6364136223846793005)+1442695040888963407)).fdiv 35184372088832)).toNat:Int)) &&& BitVec.ofInt 64 255).toNat:Int)+i64.wrap b)) &&& BitVec.ofInt 64 255).toNat:Int),c,i64.wrap (c1+1),i64.wrap (i64.wrap (c2 * 6364136223846793005)+1442695040888963407))) (k (i64.wrap (↑(BitVec.ofInt 64 (i64.wrap (↑(BitVec.ofInt 64 ((i64.wrap (i64.wrap (c2 * 6364136223846793005)+1442695040888963407)).fdiv 8589934592) ^^^ BitVec.ofInt 64 ((i64.wrap (i64.wrap (c2 * 6364136223846793005)+1442695040888963407)).fdiv 35184372088832)).toNat:Int)) &&& BitVec.ofInt 64 255).toNat:Int),c,c1,i64.wrap (i64.wrap (c2 * 6364136223846793005)+1442695040888963407)))
def M.pX c c1 c2:=M.Tq c c1 c2 some
def C.pX:=fTa S.pX (λx=>M.Tq x.2.1.1 x.2.1.2.1 x.2.1.2.2.1)
abbrev M.ES(n':Int)(c:au)(c1 c2:Int)(k:Int×au×Int×Int->Option R):=cond (decide (n'<=0)) (k (0,c,c1,c2)) (cond (decide (n'<=256)) ((M.pX c c1 c2).bind λe=>cond (!decide (n'=0)) (k (e.1.tmod n',e.2.1,e.2.2.1,e.2.2.2)) none) ((M.pX c c1 c2).bind λd=>(M.pX d.2.1 d.2.2.1 d.2.2.2).bind λf=>(M.pX f.2.1 f.2.2.1 f.2.2.2).bind λa=>(M.pX a.2.1 a.2.2.1 a.2.2.2).bind λb=>cond (!decide (n'=0)) (k ((i64.wrap (i64.wrap (i64.wrap (i64.wrap (d.1 * 16777216)+i64.wrap (f.1 * 65536))+i64.wrap (a.1 * 256))+b.1)).tmod n',b.2.1,b.2.2.1,b.2.2.2)) none))
def M.aV n' c c1 c2:=M.ES n' c c1 c2 some
def C.aV:=fTa S.aV (λx=>M.ES x.1.2.1 x.2.1.1 x.2.1.2.1 x.2.1.2.2.1) [fe C.pX]
abbrev M.Tt(list c:au)(c1 c2:Int)(k:aA×au×Int×Int->Option R):=(M.aV ((↑list.length:Int)) c c1 c2).bind λa=>(idx list a.1).bind λb=>(cStr b 0).bind λd=>k (d,a.2.1,a.2.2.1,a.2.2.2)
def M.iR list c c1 c2:=M.Tt list c c1 c2 some
def C.iR:=fTa S.iR (λx=>M.Tt x.1.2.1 x.2.1.1 x.2.1.2.1 x.2.1.2.2.1) [fe C.aV]
abbrev M.Vo(c:au)(c1 c2:Int)(k:aA×au×Int×Int->Option R):=(M.iR ([[D.str [48]],[D.str [49]],[D.str [52,50]],[D.str [51,46,53]],[D.str [46,53]],[D.str [55,46]],[D.str [49,101,51]],[D.str [50,69,45,52]],[D.str [49,48,46,50,53,101,43,49]]]) c c1 c2).bind λa=>k (a.1,a.2.1,a.2.2.1,a.2.2.2)
def M.J6 c c1 c2:=M.Vo c c1 c2 some
def C.J6:=fTa S.J6 (λx=>M.Vo x.2.1.1 x.2.1.2.1 x.2.1.2.2.1) [fe C.iR]
abbrev M.Vp(c:au)(c1 c2:Int)(k:aA×au×Int×Int->Option R):=(M.iR ([[D.str [34,34]],[D.str [34,97,34]],[D.str [34,120,32,121,34]],[D.str [34,113,92,34,113,34]],[D.str [34,92,110,34]],[D.str [34,35,110,111,34]],[D.str [34,47,34]]]) c c1 c2).bind λa=>k (a.1,a.2.1,a.2.2.1,a.2.2.2)
def M.J7 c c1 c2:=M.Vp c c1 c2 some
def C.J7:=fTa S.J7 (λx=>M.Vp x.2.1.1 x.2.1.2.1 x.2.1.2.2.1) [fe C.iR]
abbrev M.Tv(n':Int)(c:au)(c1 c2:Int)(k:Bool×au×Int×Int->Option R):=(M.aV n' c c1 c2).bind λa=>k (a.1==0,a.2.1,a.2.2.1,a.2.2.2)
def M.lQ n' c c1 c2:=M.Tv n' c c1 c2 some
def C.lQ:=fTa S.lQ (λx=>M.Tv x.1.2.1 x.2.1.1 x.2.1.2.1 x.2.1.2.2.1) [fe C.aV]
abbrev M.Vq(c:au)(c1 c2:Int)(k:aA×au×Int×Int->Option R):=(M.iR ([[D.str [47,97,47]],[D.str [47,94,120,43,36,47]],[D.str [47,97,92,47,98,47]],[D.str [47,61,47]],[D.str [47,32,47]],[D.str [47,91,48,45,57,93,47]]]) c c1 c2).bind λa=>k (a.1,a.2.1,a.2.2.1,a.2.2.2)
def M.J8 c c1 c2:=M.Vq c c1 c2 some
def C.J8:=fTa S.J8 (λx=>M.Vq x.2.1.1 x.2.1.2.1 x.2.1.2.2.1) [fe C.iR]
abbrev M.Tz(c:au)(c1 c2:Int)(k:aA×au×Int×Int->Option R):=(M.iR ([[D.str [120]],[D.str [121]],[D.str [110]],[D.str [105]],[D.str [97,114,114]],[D.str [78,82]],[D.str [70,83]],[D.str [116,111,116,97,108]],[D.str [97,49]],[D.str [95,116]],[D.str [99,111,117,110,116]]]) c c1 c2).bind λa=>k (a.1,a.2.1,a.2.2.1,a.2.2.2)
def M.jR c c1 c2:=M.Tz c c1 c2 some
def C.jR:=fTa S.jR (λx=>M.Tz x.2.1.1 x.2.1.2.1 x.2.1.2.2.1) [fe C.iR]
abbrev M.TA(c:au)(c1 c2:Int)(k:au×au×Int×Int->Option R):=(M.aV 7 c c1 c2).bind λa=>cond (a.1==0) ((M.J6 a.2.1 a.2.2.1 a.2.2.2).bind λh=>k ([[D.int .i64 2,D.int .i64 0,D.str h.1,D.str [],D.sl true 1 []]],h.2.1,h.2.2.1,h.2.2.2)) (cond (a.1==1) ((M.J7 a.2.1 a.2.2.1 a.2.2.2).bind λd=>k ([[D.int .i64 3,D.int .i64 0,D.str d.1,D.str [],D.sl true 1 []]],d.2.1,d.2.2.1,d.2.2.2)) (cond (a.1==2) ((M.lQ 2 a.2.1 a.2.2.1 a.2.2.2).bind λb=>cond b.1 ((M.J8 b.2.1 b.2.2.1 b.2.2.2).bind λg=>k ([[D.int .i64 4,D.int .i64 0,D.str g.1,D.str [],D.sl true 1 []]],g.2.1,g.2.2.1,g.2.2.2)) ((M.jR b.2.1 b.2.2.1 b.2.2.2).bind λe=>k ([[D.int .i64 1,D.int .i64 0,D.str e.1,D.str [],D.sl true 1 []]],e.2.1,e.2.2.1,e.2.2.2))) ((M.jR a.2.1 a.2.2.1 a.2.2.2).bind λf=>k ([[D.int .i64 1,D.int .i64 0,D.str f.1,D.str [],D.sl true 1 []]],f.2.1,f.2.2.1,f.2.2.2))))
def M.BJ c c1 c2:=M.TA c c1 c2 some
def C.BJ:=fTa S.BJ (λx=>M.TA x.2.1.1 x.2.1.2.1 x.2.1.2.2.1) [fe C.aV,fe C.J6,fe C.J7,fe C.lQ,fe C.J8,fe C.jR]
def M.Cb(l:au)(by' i:Int)(x':au)(kR mY:Int)(rP sD:aA)(s:Int×au)(kn:Int×au->Option R)(ke:Int×au->Option R):Option R:=match s with
 |(k',P7)=>(idx l i).bind λd=>(NP 1 d 4).bind λf=>bif decide (k'<(↑f.length:Int)) then((idx l i).bind λe=>(NP 1 e 4).bind λb=>(idx b k').bind λa=>(bM .i64 a 0).bind λc=>jH P7 [[D.int .i64 (i64.wrap (c+by'))]] 8 λg=>kn (i64.wrap (k'+1),g)) else ke (k',P7)
def M.Jf l by' i x' kR mY rP sD s:=M.Cb l by' i x' kR mY rP sD s (λs=>some (Sum.inl s)) λt=>some (Sum.inr t)
def M.Oe l by' i x' kR mY rP sD s:=dU (M.Jf l by' i x' kR mY rP sD) s
def F.Oe:LE X0 44:=le 8 (Gj [bH 0 (pL false 5),bH 1 pI,bH 5 (pO 300000 0),bH 6 pI,bH 7 (pP 300001 0),bH 8 pI] [bH 300000 zbb,bH 300001 (cB 34 zbk),bH 300002 zaZ]) (λx=>(x.1.va.2.2.1,x.va.1)) (λx s=>((x.1.1,x.1.2.1,(),x.1.va.1,(),s.1,()),(x.2.1,(x.2.2.1.1,x.2.2.1.2.1,x.2.2.1.2.2.1,x.2.2.1.va.1,(),()),s.2,()))) (λx=> .leaf (Int×au) (λt=>(Ex.exit 2,⟨[(0,F9 5 x.1.1),(1,iQ x.1.2.1),(5,V.own 300000 0),(6,iQ x.1.va.1),(7,V.ptr 300001 0),(8,iQ t.1),(29,uX false)],[(300000,Cell.arr false false 0 5 x.2.1),(300001,Cell.box 34 [iQ x.2.2.1.1,iQ x.2.2.1.2.1,yG x.2.2.1.2.2.1,yG x.2.2.1.va.1,V.own 300002 0]),(300002,Cell.arr false true 0 1 t.2)]⟩))) (λx=>zbm (M.Cb x.1.1 x.1.2.1 x.1.va.1 x.2.1) x.2.2.1) [] [] (by rintro _ _ ⟨_,_⟩ _ _<;>simp only[zbm,jH,M.Cb,nb]<;>rfl)
def M.Cc(l:au)(by':Int)(s:Int×au)(kn:Int×au->Option R)(ke:Int×au->Option R):Option R:=match s with
 |(i,x')=>bif decide (i<(↑l.length:Int)) then((idx l i).bind λb=>nC 1 b λn45 n46 s47 s48 _=>((M.Oe l by' i x' n45 n46 s47 s48 (0,[])).bind λa=>bif ay a.2 then(jH x' [[D.int .i64 n45,D.int .i64 n46,D.str s47,D.str s48,D.sl true 1 a.2]] 72 λc=>kn (i64.wrap (i+1),c)) else none)) else ke (i,x')
def M.Jg l by' s:=M.Cc l by' s (λs=>some (Sum.inl s)) λt=>some (Sum.inr t)
def M.Og l by' s:=dU (M.Jg l by') s
def F.Og:LE X0 44:=le 3 (Gj [bH 0 (pL false 5),bH 1 pI,bH 5 (pO 300000 0),bH 6 pI] [bH 300000 zbb]) (λx=>(x.1.va.1,x.2.1)) (λx s=>((x.1.1,x.1.2.1,(),s.1,()),(s.2,()))) (λx=> .leaf (Int×au) (λt=>(Ex.exit 0,⟨[(0,F9 5 x.1.1),(1,iQ x.1.2.1),(5,V.own 300000 0),(6,iQ t.1),(13,uX false)],[(300000,Cell.arr false false 0 5 t.2)]⟩))) (λx=>M.Cc x.1.1 x.1.2.1) [] [F.Oe] (by rintro _ _ ⟨_,_⟩ _ _<;>simp only[jH,nC,M.Cc,nb]<;>rfl)
abbrev M.Ql(l:au)(by':Int)(k:au->Option R):=(M.Og l by' (0,[])).bind λa=>k a.2
def M.yH l by':=M.Ql l by' some
def C.yH:=fTa S.yH (λx=>M.Ql x.1.1 x.1.2.1) [] [F.Og]
def M.ET(parts:au)(x' kR:Int)(mY rP:aA)(s:Int×au×au)(kn:Int×au×au->Option R)(ke:Int×au×au->Option R):Option R:=match s with
 |(k',sD,P7)=>bif decide (k'<(↑parts.length:Int)) then((idx parts k').bind λc=>(NP 5 c 0).bind λb=>(M.yH b ((↑sD.length:Int))).bind λa=>jH sD a 72 λd=>jH P7 [[D.int .i64 (i64.wrap ((↑d.length:Int) - 1))]] 8 λe=>kn (i64.wrap (k'+1),d,e)) else ke (k',sD,P7)
def M.Ll parts x' kR mY rP s:=M.ET parts x' kR mY rP s (λs=>some (Sum.inl s)) λt=>some (Sum.inr t)
def M.Qm parts x' kR mY rP s:=dU (M.Ll parts x' kR mY rP) s
def F.Qm:LE X0 22:=le 4 (Gj [bH 1 (pL false 1),bH 2 (pP 300000 0),bH 5 (pO 300001 0),bH 6 pI] [bH 300000 (cB 34 zbk),bH 300001 zbb,bH 300002 zaZ]) (λx=>(x.1.va.1,x.2.2.1,x.va.1)) (λx s=>((x.1.1,(),(),s.1,()),((x.2.1.1,x.2.1.2.1,x.2.1.2.2.1,x.2.1.va.1,(),()),s.2.1,s.2.2,()))) (λx=> .leaf (Int×au×au) (λt=>(Ex.exit 0,⟨[(1,F9 1 x.1.1),(2,V.ptr 300000 0),(5,V.own 300001 0),(6,iQ t.1),(13,uX false)],[(300000,Cell.box 34 [iQ x.2.1.1,iQ x.2.1.2.1,yG x.2.1.2.2.1,yG x.2.1.va.1,V.own 300002 0]),(300001,Cell.arr false false 0 5 t.2.1),(300002,Cell.arr false true 0 1 t.2.2)]⟩))) (λx=>zbm (M.ET x.1.1) x.2.1) [fe C.yH] [] (by rintro _ _ ⟨_,_,_⟩ _ _<;>simp only[zbm,jH,M.ET,nb]<;>rfl)
abbrev M.TB(n' gq:Int)(iO iM:aA)(jv parts:au)(k:au->Option R):=(M.Qm parts n' gq iO iM (0,[],[])).bind λa=>cond (ay a.2.2) (jH a.2.1 [[D.int .i64 n',D.int .i64 gq,D.str iO,D.str iM,D.sl true 1 a.2.2]] 72 λb=>k b) none
def M.bG n' gq iO iM jv parts:=M.TB n' gq iO iM jv parts some
def C.bG:=fTa S.bG (λx=>M.TB x.1.1.1 x.1.1.2.1 x.1.1.2.2.1 x.1.1.va.1 x.1.1.va.2.1 x.1.2.1) [] [F.Qm]
def M.Bc(bD:zac)(deep:Int)(c:au)(c1 c2:Int)(k:au×au×Int×Int->Option R):=(M.aV 4 c c1 c2).bind λa=>cond (a.1==0) ((M.jR a.2.1 a.2.2.1 a.2.2.2).bind λd=>(bD (i64.wrap (deep - 1)) d.2.1 d.2.2.1 d.2.2.2).bind λb=>(M.bG 5 0 d.1 [] [] (aG [[D.sl true 5 b.1]])).bind λh=>cond ([[D.sl true 5 h]].all bn) (k (h,b.2.1,b.2.2.1,b.2.2.2)) none) (cond (a.1==1) ((bD (i64.wrap (deep - 2)) a.2.1 a.2.2.1 a.2.2.2).bind λe=>(M.bG 6 0 [] [] [] (aG [[D.sl true 5 e.1]])).bind λg=>cond ([[D.sl true 5 g]].all bn) (k (g,e.2.1,e.2.2.1,e.2.2.2)) none) ((M.jR a.2.1 a.2.2.1 a.2.2.2).bind λf=>k ([[D.int .i64 1,D.int .i64 0,D.str f.1,D.str [],D.sl true 1 []]],f.2.1,f.2.2.1,f.2.2.2)))
def C.aeB{bD:zac}(Ed:S.eP.ok X0 λx=>bD x.1.2.1 x.2.1.1 x.2.1.2.1 x.2.1.2.2.1):S.DV.ok X0 λx=>M.Bc bD x.1.2.1 x.2.1.1 x.2.1.2.1 x.2.1.2.2.1 some:=fnS (λx=>M.Bc bD x.1.2.1 x.2.1.1 x.2.1.2.1 x.2.1.2.2.1) [fe C.aV,fe C.jR,fe Ed,fe C.bG] [] (by intros;simp only[M.Bc,nb]<;>rfl)
abbrev M.EU(list c:au)(c1 c2:Int)(k:Int×au×Int×Int->Option R):=(M.aV ((↑list.length:Int)) c c1 c2).bind λa=>(idx list a.1).bind λb=>(bM .i64 b 0).bind λd=>k (d,a.2.1,a.2.2.1,a.2.2.2)
def M.fP list c c1 c2:=M.EU list c c1 c2 some
def C.fP:=fTa S.fP (λx=>M.EU x.1.2.1 x.2.1.1 x.2.1.2.1 x.2.1.2.2.1) [fe C.aV]
abbrev M.Qn(c:au)(c1 c2:Int)(k:Int×au×Int×Int->Option R):=(M.fP ([[D.int .i64 60],[D.int .i64 57],[D.int .i64 58],[D.int .i64 59],[D.int .i64 55],[D.int .i64 56],[D.int .i64 56],[D.int .i64 99],[D.int .i64 99],[D.int .i64 99],[D.int .i64 63],[D.int .i64 48],[D.int .i64 47],[D.int .i64 50],[D.int .i64 62],[D.int .i64 62],[D.int .i64 49],[D.int .i64 67],[D.int .i64 46],[D.int .i64 45],[D.int .i64 44]]) c c1 c2).bind λa=>k (a.1,a.2.1,a.2.2.1,a.2.2.2)
def M.BK c c1 c2:=M.Qn c c1 c2 some
def C.BK:=fTa S.BK (λx=>M.Qn x.2.1.1 x.2.1.2.1 x.2.1.2.2.1) [fe C.fP]
abbrev M.Kt(UZ:Int×au×Int×Int)(bD:zac)(deep:Int)(k:au×au×Int×Int->Option R):=(M.fP ([[D.int .i64 56],[D.int .i64 55],[D.int .i64 61]]) UZ.2.1 UZ.2.2.1 UZ.2.2.2).bind λb=>(bD (i64.wrap (deep - 1)) b.2.1 b.2.2.1 b.2.2.2).bind λa=>(M.bG 11 b.1 [] [] [] (aG [[D.sl true 5 a.1]])).bind λc=>cond ([[D.sl true 5 c]].all bn) (k (c,a.2.1,a.2.2.1,a.2.2.2)) none
def M.Ee(qj:zac)(bD:zac)(xU:zav)(deep:Int)(c:au)(c1 c2:Int)(k:au×au×Int×Int->Option R):=cond (decide (deep<=0)) ((M.BJ c c1 c2).bind λy=>k (y.1,y.2.1,y.2.2.1,y.2.2.2)) ((M.aV 2 c c1 c2).bind λb=>(M.aV 16 b.2.1 b.2.2.1 b.2.2.2).bind λa=>cond (a.1==0) ((M.BJ a.2.1 a.2.2.1 a.2.2.2).bind λq=>k (q.1,q.2.1,q.2.2.1,q.2.2.2)) (cond (a.1==1) ((qj deep a.2.1 a.2.2.1 a.2.2.2).bind λx=>k (x.1,x.2.1,x.2.2.1,x.2.2.2)) (cond (a.1==2) ((bD (i64.wrap (deep - 1)) a.2.1 a.2.2.1 a.2.2.2).bind λr=>(M.bG 6 0 [] [] [] (aG [[D.sl true 5 r.1]])).bind λG=>cond ([[D.sl true 5 G]].all bn) (k (G,r.2.1,r.2.2.1,r.2.2.2)) none) (cond (a.1==3) ((M.jR a.2.1 a.2.2.1 a.2.2.2).bind λg=>(xU 0 3 (i64.wrap (deep - 1)) g.2.1 g.2.2.1 g.2.2.2).bind λs=>(M.bG 7 0 g.1 [] [] (aG s.1)).bind λH=>cond ([[D.sl true 5 H]].all bn) (k (H,s.2.1,s.2.2.1,s.2.2.2)) none) (cond (a.1==4) ((M.iR ([[D.str [108,101,110,103,116,104]],[D.str [115,117,98,115,116,114]],[D.str [105,110,100,101,120]],[D.str [105,110,116]],[D.str [116,111,117,112,112,101,114]]]) a.2.1 a.2.2.1 a.2.2.2).bind λh=>(xU 0 3 (i64.wrap (deep - 2)) h.2.1 h.2.2.1 h.2.2.2).bind λw=>(M.bG 8 0 h.1 [] [] (aG w.1)).bind λA=>cond ([[D.sl true 5 A]].all bn) (k (A,w.2.1,w.2.2.1,w.2.2.2)) none) (cond (a.1==5) ((qj (i64.wrap (deep - 1)) a.2.1 a.2.2.1 a.2.2.2).bind λm=>(M.bG 9 (i64.wrap (51+b.1)) [] [] [] (aG [[D.sl true 5 m.1]])).bind λI=>cond ([[D.sl true 5 I]].all bn) (k (I,m.2.1,m.2.2.1,m.2.2.2)) none) (cond (a.1==6) ((qj (i64.wrap (deep - 1)) a.2.1 a.2.2.1 a.2.2.2).bind λu=>(M.bG 10 (i64.wrap (51+b.1)) [] [] [] (aG [[D.sl true 5 u.1]])).bind λF=>cond ([[D.sl true 5 F]].all bn) (k (F,u.2.1,u.2.2.1,u.2.2.2)) none) (cond (a.1==7) (M.Kt a bD deep k) (cond (a.1==8) (M.Kt a bD deep k) (cond (a.1==9) ((M.jR a.2.1 a.2.2.1 a.2.2.2).bind λl=>(xU 1 2 (i64.wrap (deep - 1)) l.2.1 l.2.2.1 l.2.2.2).bind λj=>(M.bG 13 0 l.1 [] [] (aG j.1)).bind λE=>cond ([[D.sl true 5 E]].all bn) (k (E,j.2.1,j.2.2.1,j.2.2.2)) none) (cond (a.1==10) ((bD (i64.wrap (deep - 1)) a.2.1 a.2.2.1 a.2.2.2).bind λt=>(bD (i64.wrap (deep - 1)) t.2.1 t.2.2.1 t.2.2.2).bind λf=>(bD (i64.wrap (deep - 1)) f.2.1 f.2.2.1 f.2.2.2).bind λd=>(M.bG 14 0 [] [] [] (aG [[D.sl true 5 t.1],[D.sl true 5 f.1],[D.sl true 5 d.1]])).bind λB=>cond ([[D.sl true 5 B]].all bn) (k (B,d.2.1,d.2.2.1,d.2.2.2)) none) (cond (a.1==11) ((M.fP ([[D.int .i64 54],[D.int .i64 38],[D.int .i64 43]]) a.2.1 a.2.2.1 a.2.2.2).bind λi=>(qj (i64.wrap (deep - 1)) i.2.1 i.2.2.1 i.2.2.2).bind λe=>(bD (i64.wrap (deep - 1)) e.2.1 e.2.2.1 e.2.2.2).bind λo=>(M.bG 15 i.1 [] [] [] (aG [[D.sl true 5 e.1],[D.sl true 5 o.1]])).bind λz=>cond ([[D.sl true 5 z]].all bn) (k (z,o.2.1,o.2.2.1,o.2.2.2)) none) ((M.BK a.2.1 a.2.2.1 a.2.2.2).bind λn=>(bD (i64.wrap (deep - 1)) n.2.1 n.2.2.1 n.2.2.2).bind λv=>(bD (i64.wrap (deep - 1)) v.2.1 v.2.2.1 v.2.2.2).bind λp=>(M.bG 12 n.1 [] [] [] (aG [[D.sl true 5 v.1],[D.sl true 5 p.1]])).bind λC=>cond ([[D.sl true 5 C]].all bn) (k (C,p.2.1,p.2.2.1,p.2.2.2)) none)))))))))))))
def C.aiQ{qj:zac}{bD:zac}{xU:zav}(agk:S.DV.ok X0 λx=>qj x.1.2.1 x.2.1.1 x.2.1.2.1 x.2.1.2.2.1)(Ed:S.eP.ok X0 λx=>bD x.1.2.1 x.2.1.1 x.2.1.2.1 x.2.1.2.2.1)(ak4:S.oK.ok X0 λx=>xU x.1.2.1 x.1.2.2.1 x.1.va.1 x.2.1.1 x.2.1.2.1 x.2.1.2.2.1):S.eP.ok X0 λx=>M.Ee qj bD xU x.1.2.1 x.2.1.1 x.2.1.2.1 x.2.1.2.2.1 some:=fnS (λx=>M.Ee qj bD xU x.1.2.1 x.2.1.1 x.2.1.2.1 x.2.1.2.2.1) [fe C.BJ,fe C.aV,fe agk,fe Ed,fe C.bG,fe C.jR,fe ak4,fe C.iR,fe C.fP,fe C.BK] [] (by intros;simp only[M.Ee,M.Kt,nb]<;>rfl)
def M.Lm(bD:zac)(deep:Int)(s:Int×au×Int×Int×au)(kn:Int×au×Int×Int×au->Option R)(ke:Int×au×Int×Int×au->Option R):Option R:=match s with
 |(n',v,v1,v2,x')=>bif decide (n'>0) then((bD deep v v1 v2).bind λa=>jH x' [[D.sl true 5 a.1]] 24 λb=>kn (i64.wrap (n' - 1),a.2.1,a.2.2.1,a.2.2.2,b)) else ke (n',v,v1,v2,x')
def M.SI bD deep s:=M.Lm bD deep s (λs=>some (Sum.inl s)) λt=>some (Sum.inr t)
def M.Qo bD deep s:=dU (M.SI bD deep) s
def F.Qo{bD:zac}(Ed:S.eP.ok X0 λx=>bD x.1.2.1 x.2.1.1 x.2.1.2.1 x.2.1.2.2.1):LE X0 80:=le 3 (Gj [bH 0 (pP 100000 0),bH 3 pI,bH 9 (pO 300000 0),bH 10 pI] [bH 100000 zbd,bH 300000 zbf]) (λx=>(x.1.va.1,x.2.1.1,x.2.1.2.1,x.2.1.2.2.1,x.2.2.1)) (λx s=>(((),x.1.2.1,(),s.1,()),((s.2.1,s.2.2.1,s.va.1,()),s.va.2,()))) (λx=> .leaf zay (λt=>(Ex.exit 0,⟨[(0,V.ptr 100000 0),(3,iQ x.1.2.1),(9,V.own 300000 0),(10,iQ t.1),(21,uX false)],[(100000,Cell.box 45 [F9 1 t.2.1,iQ t.2.2.1,iQ t.va.1]),(300000,Cell.arr false false 0 1 t.va.2)]⟩))) (λx=>M.Lm bD x.1.2.1) [fe Ed] [] (by rintro _ _ ⟨_,_,_,_,_⟩ _ _<;>simp only[jH,M.Lm,nb]<;>rfl)
def M.IU(bD:zac)(least most deep:Int)(c:au)(c1 c2:Int)(k:au×au×Int×Int->Option R):=(M.aV (i64.wrap (i64.wrap (most - least)+1)) c c1 c2).bind λb=>(M.Qo bD deep (i64.wrap (least+b.1),b.2.1,b.2.2.1,b.2.2.2,[])).bind λa=>k (a.2.2.2.2,a.2.1,a.2.2.1,a.2.2.2.1)
def C.aiR{bD:zac}(Ed:S.eP.ok X0 λx=>bD x.1.2.1 x.2.1.1 x.2.1.2.1 x.2.1.2.2.1):S.oK.ok X0 λx=>M.IU bD x.1.2.1 x.1.2.2.1 x.1.va.1 x.2.1.1 x.2.1.2.1 x.2.1.2.2.1 some:=fnS (λx=>M.IU bD x.1.2.1 x.1.2.2.1 x.1.va.1 x.2.1.1 x.2.1.2.1 x.2.1.2.2.1) [fe C.aV] [F.Qo Ed] (by intros;simp only[M.IU,nb]<;>rfl)
def M.sF:Nat->(zav)×(zac)×(zac):=Nat.rec (λ_ _ _ _ _ _=>none,λ_ _ _ _=>none,λ_ _ _ _=>none) λ_ qz=>(λleast most deep c c1 c2=>M.IU qz.2.2 least most deep c c1 c2 some,λdeep c c1 c2=>M.Bc qz.2.2 deep c c1 c2 some,λdeep c c1 c2=>M.Ee qz.2.1 qz.2.2 qz.1 deep c c1 c2 some)
def M.IV n:=(M.sF n).1
def M.Ij n:=(M.sF n).2.1
def M.qC n:=(M.sF n).2.2
def M.ak5(n:Nat):M.IV (n+1)=λleast most deep c c1 c2=>M.IU (M.qC n) least most deep c c1 c2 some:=rfl
def M.agl(n:Nat):M.Ij (n+1)=λdeep c c1 c2=>M.Bc (M.qC n) deep c c1 c2 some:=rfl
def M.abv(n:Nat):M.qC (n+1)=λdeep c c1 c2=>M.Ee (M.Ij n) (M.qC n) (M.IV n) deep c c1 c2 some:=rfl
def M.oK least most deep c c1 c2:=lim λn=>M.IV n least most deep c c1 c2
def M.DV deep c c1 c2:=lim λn=>M.Ij n deep c c1 c2
def M.eP deep c c1 c2:=lim λn=>M.qC n deep c c1 c2
def C.sF:∀n,(S.oK.ok X0 λx=>M.IV n x.1.2.1 x.1.2.2.1 x.1.va.1 x.2.1.1 x.2.1.2.1 x.2.1.2.2.1)/\(S.DV.ok X0 λx=>M.Ij n x.1.2.1 x.2.1.1 x.2.1.2.1 x.2.1.2.2.1)/\(S.eP.ok X0 λx=>M.qC n x.1.2.1 x.2.1.1 x.2.1.2.1 x.2.1.2.2.1)
 |0=>⟨dQ.zero,dQ.zero,dQ.zero⟩
 |n+1=>have h:=C.sF n;⟨C.aiR h.2.2,C.aeB h.2.2,C.aiQ h.2.1 h.2.2 h.1⟩
def C.oK:S.oK.ok X0 λx=>M.oK x.1.2.1 x.1.2.2.1 x.1.va.1 x.2.1.1 x.2.1.2.1 x.2.1.2.2.1:=dQ.lim λn=>(C.sF n).1
def M.aiS{n:Nat}{least most deep:Int}{c:au}{c1 c2:Int}{r:au×au×Int×Int}(h:M.IV n least most deep c c1 c2=some r):M.oK least most deep c c1 c2=some r:=dQ.zL (λn=>(C.sF n).1) (by intro a b h;simp[S.oK,sg] at h;first|exact h|simp[Prod.ext_iff,h]) (x:=(((),least,most,deep,()),((c,c1,c2,()),()))) h
def C.DV:S.DV.ok X0 λx=>M.DV x.1.2.1 x.2.1.1 x.2.1.2.1 x.2.1.2.2.1:=dQ.lim λn=>(C.sF n).2.1
def C.eP:S.eP.ok X0 λx=>M.eP x.1.2.1 x.2.1.1 x.2.1.2.1 x.2.1.2.2.1:=dQ.lim λn=>(C.sF n).2.2
def M.aiT{n:Nat}{deep:Int}{c:au}{c1 c2:Int}{r:au×au×Int×Int}(h:M.qC n deep c c1 c2=some r):M.eP deep c c1 c2=some r:=dQ.zL (λn=>(C.sF n).2.2) (by intro a b h;simp[S.eP,sg] at h;first|exact h|simp[Prod.ext_iff,h]) (x:=(((),deep,()),((c,c1,c2,()),()))) h
abbrev M.Lp(r17:Int×au×Int×Int)(deep:Int)(k:au×au×Int×Int->Option R):=(M.aV 2 r17.2.1 r17.2.2.1 r17.2.2.2).bind λc=>(M.oK c.1 3 deep c.2.1 c.2.2.1 c.2.2.2).bind λa=>(M.lQ 3 a.2.1 a.2.2.1 a.2.2.2).bind λb=>cond b.1 ((M.iR ([[D.str [62]],[D.str [62,62]],[D.str [124]]]) b.2.1 b.2.2.1 b.2.2.2).bind λe=>(M.eP (i64.wrap (deep - 1)) e.2.1 e.2.2.1 e.2.2.2).bind λd=>cond (((a.1.length+[[D.sl true 5 d.1]].length) * 24).ble 140737488355328) (cond ((a.1.length+[[D.sl true 5 d.1]].length).ble 140737488355328) ((M.bG 21 c.1 [] e.1 [] (aG (a.1++[[D.sl true 5 d.1]]))).bind λf=>cond ([[D.sl true 5 f]].all bn) (k (f,d.2.1,d.2.2.1,d.2.2.2)) none) none) none) ((M.bG 21 c.1 [] [] [] (aG a.1)).bind λg=>cond ([[D.sl true 5 g]].all bn) (k (g,b.2.1,b.2.2.1,b.2.2.2)) none)
abbrev M.Oh(deep:Int)(c:au)(c1 c2:Int)(k:au×au×Int×Int->Option R):=(M.aV 9 c c1 c2).bind λa=>cond (a.1==0) (M.Lp a deep k) (cond (a.1==1) (M.Lp a deep k) (cond (a.1==2) ((M.fP ([[D.int .i64 22],[D.int .i64 25],[D.int .i64 26]]) a.2.1 a.2.2.1 a.2.2.2).bind λg=>k ([[D.int .i64 g.1,D.int .i64 0,D.str [],D.str [],D.sl true 1 []]],g.2.1,g.2.2.1,g.2.2.2)) (cond (a.1==3) ((M.fP ([[D.int .i64 23],[D.int .i64 24]]) a.2.1 a.2.2.1 a.2.2.2).bind λj=>(M.oK 0 1 deep j.2.1 j.2.2.1 j.2.2.2).bind λh=>(M.bG j.1 0 [] [] [] (aG h.1)).bind λm=>cond ([[D.sl true 5 m]].all bn) (k (m,h.2.1,h.2.2.1,h.2.2.2)) none) (cond (a.1==4) ((M.jR a.2.1 a.2.2.1 a.2.2.2).bind λf=>(M.oK 0 2 (i64.wrap (deep - 1)) f.2.1 f.2.2.1 f.2.2.2).bind λe=>(M.bG 27 0 f.1 [] [] (aG e.1)).bind λo=>cond ([[D.sl true 5 o]].all bn) (k (o,e.2.1,e.2.2.1,e.2.2.2)) none) (cond (a.1==5) ((M.lQ 2 a.2.1 a.2.2.1 a.2.2.2).bind λb=>cond b.1 ((M.iR ([[D.str [35]],[D.str [35,32,110,111,116,101]],[D.str [35,120,32,61,32,49]]]) b.2.1 b.2.2.1 b.2.2.2).bind λd=>k ([[D.int .i64 34,D.int .i64 0,D.str d.1,D.str [],D.sl true 1 []]],d.2.1,d.2.2.1,d.2.2.2)) ((M.eP deep b.2.1 b.2.2.1 b.2.2.2).bind λi=>(M.bG 20 0 [] [] [] (aG [[D.sl true 5 i.1]])).bind λn=>cond ([[D.sl true 5 n]].all bn) (k (n,i.2.1,i.2.2.1,i.2.2.2)) none)) ((M.eP deep a.2.1 a.2.2.1 a.2.2.2).bind λl=>(M.bG 20 0 [] [] [] (aG [[D.sl true 5 l.1]])).bind λp=>cond ([[D.sl true 5 p]].all bn) (k (p,l.2.1,l.2.2.1,l.2.2.2)) none))))))
def M.vJ deep c c1 c2:=M.Oh deep c c1 c2 some
def C.vJ:=fTa S.vJ (λx=>M.Oh x.1.2.1 x.2.1.1 x.2.1.2.1 x.2.1.2.2.1) [fe C.aV,fe C.oK,fe C.lQ,fe C.iR,fe C.eP,fe C.bG,fe C.fP,fe C.jR]
abbrev M.Qp(deep:Int)(c:au)(c1 c2:Int)(k:au×au×Int×Int->Option R):=(M.lQ 3 c c1 c2).bind λa=>cond a.1 (k ([[D.int .i64 16,D.int .i64 0,D.str [],D.str [],D.sl true 1 []]],a.2.1,a.2.2.1,a.2.2.2)) ((M.eP deep a.2.1 a.2.2.1 a.2.2.2).bind λb=>k (b.1,b.2.1,b.2.2.1,b.2.2.2))
def M.vK deep c c1 c2:=M.Qp deep c c1 c2 some
def C.vK:=fTa S.vK (λx=>M.Qp x.1.2.1 x.2.1.1 x.2.1.2.1 x.2.1.2.2.1) [fe C.lQ,fe C.eP]
def M.Ef(lI:zac)(deep:Int)(c:au)(c1 c2:Int)(k:au×au×Int×Int->Option R):=cond (decide (deep<=0)) ((M.vJ (cond (decide (2<deep)) 2 deep) c c1 c2).bind λp=>k (p.1,p.2.1,p.2.2.1,p.2.2.2)) ((M.lQ 3 c c1 c2).bind λb=>cond (!b.1) ((M.vJ (cond (decide (2<deep)) 2 deep) b.2.1 b.2.2.1 b.2.2.2).bind λi=>k (i.1,i.2.1,i.2.2.1,i.2.2.2)) ((M.aV 6 b.2.1 b.2.2.1 b.2.2.2).bind λa=>cond (a.1==0) ((M.eP 1 a.2.1 a.2.2.1 a.2.2.2).bind λq=>(lI (i64.wrap (deep - 1)) q.2.1 q.2.2.1 q.2.2.2).bind λu=>(M.bG 28 0 [] [] [] (aG [[D.sl true 5 q.1],[D.sl true 5 u.1]])).bind λE=>cond ([[D.sl true 5 E]].all bn) (k (E,u.2.1,u.2.2.1,u.2.2.2)) none) (cond (a.1==1) ((M.eP 1 a.2.1 a.2.2.1 a.2.2.2).bind λw=>(lI (i64.wrap (deep - 1)) w.2.1 w.2.2.1 w.2.2.2).bind λt=>(lI (i64.wrap (deep - 1)) t.2.1 t.2.2.1 t.2.2.2).bind λg=>(M.bG 28 0 [] [] [] (aG [[D.sl true 5 w.1],[D.sl true 5 t.1],[D.sl true 5 g.1]])).bind λA=>cond ([[D.sl true 5 A]].all bn) (k (A,g.2.1,g.2.2.1,g.2.2.2)) none) (cond (a.1==2) ((M.eP 1 a.2.1 a.2.2.1 a.2.2.2).bind λo=>(lI (i64.wrap (deep - 1)) o.2.1 o.2.2.1 o.2.2.2).bind λe=>(M.bG 29 0 [] [] [] (aG [[D.sl true 5 o.1],[D.sl true 5 e.1]])).bind λz=>cond ([[D.sl true 5 z]].all bn) (k (z,e.2.1,e.2.2.1,e.2.2.2)) none) (cond (a.1==3) ((lI (i64.wrap (deep - 1)) a.2.1 a.2.2.1 a.2.2.2).bind λm=>(M.eP 1 m.2.1 m.2.2.1 m.2.2.2).bind λn=>(M.bG 30 0 [] [] [] (aG [[D.sl true 5 m.1],[D.sl true 5 n.1]])).bind λy=>cond ([[D.sl true 5 y]].all bn) (k (y,n.2.1,n.2.2.1,n.2.2.2)) none) (cond (a.1==4) ((M.vK 2 a.2.1 a.2.2.1 a.2.2.2).bind λv=>(M.vK 1 v.2.1 v.2.2.1 v.2.2.2).bind λf=>(M.vK 1 f.2.1 f.2.2.1 f.2.2.2).bind λj=>(lI (i64.wrap (deep - 1)) j.2.1 j.2.2.1 j.2.2.2).bind λx=>(M.bG 31 0 [] [] [] (aG [[D.sl true 5 v.1],[D.sl true 5 f.1],[D.sl true 5 j.1],[D.sl true 5 x.1]])).bind λC=>cond ([[D.sl true 5 C]].all bn) (k (C,x.2.1,x.2.2.1,x.2.2.2)) none) ((M.lQ 2 a.2.1 a.2.2.1 a.2.2.2).bind λd=>cond d.1 ((lI (i64.wrap (deep - 1)) d.2.1 d.2.2.1 d.2.2.2).bind λl=>k (l.1,l.2.1,l.2.2.1,l.2.2.2)) ((M.jR d.2.1 d.2.2.1 d.2.2.2).bind λr=>(M.jR r.2.1 r.2.2.1 r.2.2.2).bind λs=>(lI (i64.wrap (deep - 1)) s.2.1 s.2.2.1 s.2.2.2).bind λh=>(M.bG 32 0 r.1 s.1 [] (aG [[D.sl true 5 h.1]])).bind λB=>cond ([[D.sl true 5 B]].all bn) (k (B,h.2.1,h.2.2.1,h.2.2.2)) none))))))))
def C.aiV{lI:zac}(aiW:S.mF.ok X0 λx=>lI x.1.2.1 x.2.1.1 x.2.1.2.1 x.2.1.2.2.1):S.qX.ok X0 λx=>M.Ef lI x.1.2.1 x.2.1.1 x.2.1.2.1 x.2.1.2.2.1 some:=fnS (λx=>M.Ef lI x.1.2.1 x.2.1.1 x.2.1.2.1 x.2.1.2.2.1) [fe C.vJ,fe C.lQ,fe C.aV,fe C.eP,fe aiW,fe C.bG,fe C.vK,fe C.jR] [] (by intros;simp only[M.Ef,nb]<;>rfl)
def M.Jh(kL:zac)(deep:Int)(s:Int×au×Int×Int×au)(kn:Int×au×Int×Int×au->Option R)(ke:Int×au×Int×Int×au->Option R):Option R:=match s with
 |(n',v,v1,v2,x')=>bif decide (n'>0) then((kL deep v v1 v2).bind λa=>jH x' [[D.sl true 5 a.1]] 24 λb=>kn (i64.wrap (n' - 1),a.2.1,a.2.2.1,a.2.2.2,b)) else ke (n',v,v1,v2,x')
def M.Qq kL deep s:=M.Jh kL deep s (λs=>some (Sum.inl s)) λt=>some (Sum.inr t)
def M.Oi kL deep s:=dU (M.Qq kL deep) s
def F.Oi{kL:zac}(XB:S.qX.ok X0 λx=>kL x.1.2.1 x.2.1.1 x.2.1.2.1 x.2.1.2.2.1):LE X0 41:=le 3 (Gj [bH 0 (pP 100000 0),bH 1 pI,bH 5 (pO 300000 0),bH 6 pI] [bH 100000 zbd,bH 300000 zbf]) (λx=>(x.1.va.1,x.2.1.1,x.2.1.2.1,x.2.1.2.2.1,x.2.2.1)) (λx s=>(((),x.1.2.1,(),s.1,()),((s.2.1,s.2.2.1,s.va.1,()),s.va.2,()))) (λx=> .leaf zay (λt=>(Ex.exit 0,⟨[(0,V.ptr 100000 0),(1,iQ x.1.2.1),(5,V.own 300000 0),(6,iQ t.1),(11,uX false)],[(100000,Cell.box 45 [F9 1 t.2.1,iQ t.2.2.1,iQ t.va.1]),(300000,Cell.arr false false 0 1 t.va.2)]⟩))) (λx=>M.Jh kL x.1.2.1) [fe XB] [] (by rintro _ _ ⟨_,_,_,_,_⟩ _ _<;>simp only[jH,M.Jh,nb]<;>rfl)
def M.EW(kL:zac)(deep:Int)(c:au)(c1 c2:Int)(k:au×au×Int×Int->Option R):=(M.aV 3 c c1 c2).bind λa=>(M.Oi kL deep (a.1,a.2.1,a.2.2.1,a.2.2.2,[])).bind λb=>(M.bG 33 0 [] [] [] (aG b.2.2.2.2)).bind λd=>cond ([[D.sl true 5 d]].all bn) (k (d,b.2.1,b.2.2.1,b.2.2.2.1)) none
def C.agm{kL:zac}(XB:S.qX.ok X0 λx=>kL x.1.2.1 x.2.1.1 x.2.1.2.1 x.2.1.2.2.1):S.mF.ok X0 λx=>M.EW kL x.1.2.1 x.2.1.1 x.2.1.2.1 x.2.1.2.2.1 some:=fnS (λx=>M.EW kL x.1.2.1 x.2.1.1 x.2.1.2.1 x.2.1.2.2.1) [fe C.aV,fe C.bG] [F.Oi XB] (by intros;simp only[M.EW,nb]<;>rfl)
def M.wV:Nat->(zac)×(zac):=Nat.rec (λ_ _ _ _=>none,λ_ _ _ _=>none) λ_ qz=>(λdeep c c1 c2=>M.EW qz.2 deep c c1 c2 some,λdeep c c1 c2=>M.Ef qz.1 deep c c1 c2 some)
def M.EY n:=(M.wV n).1
def M.wu n:=(M.wV n).2
def M.aiX(n:Nat):M.EY (n+1)=λdeep c c1 c2=>M.EW (M.wu n) deep c c1 c2 some:=rfl
def M.abw(n:Nat):M.wu (n+1)=λdeep c c1 c2=>M.Ef (M.EY n) deep c c1 c2 some:=rfl
def M.mF deep c c1 c2:=lim λn=>M.EY n deep c c1 c2
def M.qX deep c c1 c2:=lim λn=>M.wu n deep c c1 c2
def C.wV:∀n,(S.mF.ok X0 λx=>M.EY n x.1.2.1 x.2.1.1 x.2.1.2.1 x.2.1.2.2.1)/\(S.qX.ok X0 λx=>M.wu n x.1.2.1 x.2.1.1 x.2.1.2.1 x.2.1.2.2.1)
 |0=>⟨dQ.zero,dQ.zero⟩
 |n+1=>have h:=C.wV n;⟨C.agm h.2,C.aiV h.1⟩
def C.mF:S.mF.ok X0 λx=>M.mF x.1.2.1 x.2.1.1 x.2.1.2.1 x.2.1.2.2.1:=dQ.lim λn=>(C.wV n).1
def M.agn{n:Nat}{deep:Int}{c:au}{c1 c2:Int}{r:au×au×Int×Int}(h:M.EY n deep c c1 c2=some r):M.mF deep c c1 c2=some r:=dQ.zL (λn=>(C.wV n).1) (by intro a b h;simp[S.mF,sg] at h;first|exact h|simp[Prod.ext_iff,h]) (x:=(((),deep,()),((c,c1,c2,()),()))) h
def C.qX:S.qX.ok X0 λx=>M.qX x.1.2.1 x.2.1.1 x.2.1.2.1 x.2.1.2.2.1:=dQ.lim λn=>(C.wV n).2
def M.aiY{n:Nat}{deep:Int}{c:au}{c1 c2:Int}{r:au×au×Int×Int}(h:M.wu n deep c c1 c2=some r):M.qX deep c c1 c2=some r:=dQ.zL (λn=>(C.wV n).2) (by intro a b h;simp[S.qX,sg] at h;first|exact h|simp[Prod.ext_iff,h]) (x:=(((),deep,()),((c,c1,c2,()),()))) h
def M.Ji(deep:Int)(s:Int×au×Int×Int×au)(kn:Int×au×Int×Int×au->Option R)(ke:Int×au×Int×Int×au->Option R):Option R:=match s with
 |(n',v,v1,v2,x')=>bif decide (n'>0) then((M.jR v v1 v2).bind λa=>jH x' [[D.sl true 5 [[D.int .i64 1,D.int .i64 0,D.str a.1,D.str [],D.sl true 1 []]]]] 24 λb=>kn (i64.wrap (n' - 1),a.2.1,a.2.2.1,a.2.2.2,b)) else ke (n',v,v1,v2,x')
def M.Qr deep s:=M.Ji deep s (λs=>some (Sum.inl s)) λt=>some (Sum.inr t)
def M.Oj deep s:=dU (M.Qr deep) s
def F.Oj:LE X0 21:=le 16 (Gj [bH 0 (pP 100000 0),bH 3 pI,bH 4 (pO 300000 0),bH 5 pI] [bH 100000 zbd,bH 300000 zbf]) (λx=>(x.1.va.1,x.2.1.1,x.2.1.2.1,x.2.1.2.2.1,x.2.2.1)) (λx s=>(((),x.1.2.1,(),s.1,()),((s.2.1,s.2.2.1,s.va.1,()),s.va.2,()))) (λx=> .leaf zay (λt=>(Ex.exit 1,⟨[(0,V.ptr 100000 0),(3,iQ x.1.2.1),(4,V.own 300000 0),(5,iQ t.1),(65,uX false)],[(100000,Cell.box 45 [F9 1 t.2.1,iQ t.2.2.1,iQ t.va.1]),(300000,Cell.arr false false 0 1 t.va.2)]⟩))) (λx=>M.Ji x.1.2.1) [fe C.jR] [] (by rintro _ _ ⟨_,_,_,_,_⟩ _ _<;>simp only[jH,M.Ji,nb]<;>rfl)
abbrev M.TD(c:au)(c1 c2:Int)(k:au×au×Int×Int->Option R):=(M.aV 2 c c1 c2).bind λb=>(M.aV 8 b.2.1 b.2.2.1 b.2.2.2).bind λa=>cond (a.1==0) ((M.aV 2 a.2.1 a.2.2.1 a.2.2.2).bind λi=>(M.mF (i64.wrap (1+b.1)) i.2.1 i.2.2.1 i.2.2.2).bind λd=>(M.bG (i64.wrap (40+i.1)) 0 [] [] [] (aG [[D.sl true 5 d.1]])).bind λy=>cond ([[D.sl true 5 y]].all bn) (k (y,d.2.1,d.2.2.1,d.2.2.2)) none) (cond (a.1==1) ((M.eP (i64.wrap (1+b.1)) a.2.1 a.2.2.1 a.2.2.2).bind λo=>(M.bG 42 1 [] [] [] (aG [[D.sl true 5 o.1]])).bind λv=>cond ([[D.sl true 5 v]].all bn) (k (v,o.2.1,o.2.2.1,o.2.2.2)) none) (cond (a.1==2) ((M.mF (i64.wrap (1+b.1)) a.2.1 a.2.2.1 a.2.2.2).bind λl=>(M.bG 42 2 [] [] [] (aG [[D.sl true 5 l.1]])).bind λx=>cond ([[D.sl true 5 x]].all bn) (k (x,l.2.1,l.2.2.1,l.2.2.2)) none) (cond (a.1==3) ((M.eP 1 a.2.1 a.2.2.1 a.2.2.2).bind λh=>(M.eP 1 h.2.1 h.2.2.1 h.2.2.2).bind λq=>(M.bG 43 1 [] [] [] (aG [[D.sl true 5 h.1],[D.sl true 5 q.1]])).bind λw=>cond ([[D.sl true 5 w]].all bn) (k (w,q.2.1,q.2.2.1,q.2.2.2)) none) (cond (a.1==4) ((M.eP 1 a.2.1 a.2.2.1 a.2.2.2).bind λm=>(M.eP 1 m.2.1 m.2.2.1 m.2.2.2).bind λf=>(M.mF (i64.wrap (1+b.1)) f.2.1 f.2.2.1 f.2.2.2).bind λn=>(M.bG 43 3 [] [] [] (aG [[D.sl true 5 m.1],[D.sl true 5 f.1],[D.sl true 5 n.1]])).bind λz=>cond ([[D.sl true 5 z]].all bn) (k (z,n.2.1,n.2.2.1,n.2.2.2)) none) (cond (a.1==5) ((M.aV 3 a.2.1 a.2.2.1 a.2.2.2).bind λj=>(M.Oj (i64.wrap (1+b.1)) (j.1,j.2.1,j.2.2.1,j.2.2.2,[])).bind λg=>(M.iR ([[D.str [102]],[D.str [103]],[D.str [109,97,120]]]) g.2.1 g.2.2.1 g.2.2.2.1).bind λt=>(M.mF (i64.wrap (1+b.1)) t.2.1 t.2.2.1 t.2.2.2).bind λe=>jH g.2.2.2.2 [[D.sl true 5 e.1]] 24 λB=>(M.bG 44 0 t.1 [] [] (aG B)).bind λu=>cond ([[D.sl true 5 u]].all bn) (k (u,e.2.1,e.2.2.1,e.2.2.2)) none) (cond (a.1==6) ((M.iR ([[D.str [35,32,116,111,112]],[D.str [35]]]) a.2.1 a.2.2.1 a.2.2.2).bind λs=>k ([[D.int .i64 34,D.int .i64 0,D.str s.1,D.str [],D.sl true 1 []]],s.2.1,s.2.2.1,s.2.2.2)) ((M.eP (i64.wrap (1+b.1)) a.2.1 a.2.2.1 a.2.2.2).bind λp=>(M.mF (i64.wrap (1+b.1)) p.2.1 p.2.2.1 p.2.2.2).bind λr=>(M.bG 42 3 [] [] [] (aG [[D.sl true 5 p.1],[D.sl true 5 r.1]])).bind λA=>cond ([[D.sl true 5 A]].all bn) (k (A,r.2.1,r.2.2.1,r.2.2.2)) none)))))))
def M.Gn c c1 c2:=M.TD c c1 c2 some
def C.Gn:=fTa S.Gn (λx=>M.TD x.2.1.1 x.2.1.2.1 x.2.1.2.2.1) [fe C.aV,fe C.mF,fe C.bG,fe C.eP,fe C.iR] [F.Oj]
def M.Eu(s:Int×au×Int×Int×au)(kn:Int×au×Int×Int×au->Option R)(ke:Int×au×Int×Int×au->Option R):Option R:=match s with
 |(n',v,v1,v2,x')=>bif decide (n'>0) then((M.Gn v v1 v2).bind λa=>jH x' [[D.sl true 5 a.1]] 24 λb=>kn (i64.wrap (n' - 1),a.2.1,a.2.2.1,a.2.2.2,b)) else ke (n',v,v1,v2,x')
def M.Ny s:=M.Eu s (λs=>some (Sum.inl s)) λt=>some (Sum.inr t)
def M.Ce s:=dU (M.Ny) s
def F.Ce:LE X0 11:=le 3 (Gj [bH 0 (pP 100000 0),bH 3 (pO 300000 0),bH 4 pI] [bH 100000 zbd,bH 300000 zbf]) (λx=>(x.1.2.2.1,x.2.1.1,x.2.1.2.1,x.2.1.2.2.1,x.2.2.1)) (λx s=>(((),(),s.1,()),((s.2.1,s.2.2.1,s.va.1,()),s.va.2,()))) (λx=> .leaf zay (λt=>(Ex.exit 2,⟨[(0,V.ptr 100000 0),(3,V.own 300000 0),(4,iQ t.1),(10,uX false)],[(100000,Cell.box 45 [F9 1 t.2.1,iQ t.2.2.1,iQ t.va.1]),(300000,Cell.arr false false 0 1 t.va.2)]⟩))) (λx=>M.Eu) [fe C.Gn] [] (by rintro _ _ ⟨_,_,_,_,_⟩ _ _<;>simp only[jH,M.Eu,nb]<;>rfl)
def M.x8(s:(au×Int×Int)⊕zax)(kn:(au×Int×Int)⊕zax->Option R)(ke:au×Int×Int×au->Option R):Option R:=match s with
 | .inl (v,v1,v2)=>(M.aV 4 v v1 v2).bind λf=>((M.Ce (f.1,f.2.1,f.2.2.1,f.2.2.2,[])).bind λa=>(M.bG 45 0 [] [] [] (aG a.2.2.2.2)).bind λc=>bif[[D.sl true 5 c]].all bn then(bif decide ((↑c.length:Int)<=220) then(ke (a.2.1,a.2.2.1,a.2.2.2.1,c)) else kn (.inr (false,a.2.1,a.2.2.1,a.2.2.2.1,c))) else none)
 | .inr (v23,v,v1,v2,x')=>(M.aV 4 v v1 v2).bind λd=>(M.Ce (d.1,d.2.1,d.2.2.1,d.2.2.2,[])).bind λb=>(M.bG 45 0 [] [] [] (aG b.2.2.2.2)).bind λe=>bif[[D.sl true 5 e]].all bn then(bif decide ((↑e.length:Int)<=220) then(ke (b.2.1,b.2.2.1,b.2.2.2.1,e)) else kn (.inr (false,b.2.1,b.2.2.1,b.2.2.2.1,e))) else none
def M.x9 s:=M.x8 s (λs=>some (Sum.inl s)) λt=>some (Sum.inr t)
def M.Jj s:=dU (M.x9) s
def F.Jj:LE X0 11:=le 1 (pOr (Gj [bH 0 (pP 100000 0)] [bH 100000 zbd]) (Gj [bH 0 (pP 100000 0),bH 5 (pO 300000 0),bH 23 pB] [bH 100000 zbd,bH 300000 zbb])) (σ:=(au×Int×Int)⊕zax) (λx=>(match x with| .inl x=> .inl ((x.2.1.1,x.2.1.2.1,x.2.1.2.2.1))| .inr x=> .inr ((x.1.2.2.1,x.2.1.1,x.2.1.2.1,x.2.1.2.2.1,x.2.2.1)))) (λx s=>(match s with| .inl s=> .inl ((((),()),((s.1,s.2.1,s.2.2,()),())))| .inr s=> .inr ((((),(),s.1,()),((s.2.1,s.2.2.1,s.va.1,()),s.va.2,()))))) (λx=> .leaf (au×Int×Int×au) (λt=>(Ex.ret,⟨[(2,V.own 300000 0)],[(100000,Cell.box 45 [F9 1 t.1,iQ t.2.1,iQ t.2.2.1]),(300000,Cell.arr false false 0 5 t.va)]⟩))) (λx=>M.x8) [fe C.aV,fe C.bG] [F.Ce] (by rintro _ _ (⟨_,_,_⟩|⟨_,_,_,_,_⟩) _ _<;>unfold M.x8<;>exact zbn) (hE:=by intro _ _ s _;rcases s with s|s<;>kernel_rfl)
abbrev M.Lr(c:au)(c1 c2:Int)(k:au×au×Int×Int->Option R):=(M.Jj (.inl (c,c1,c2))).bind λa=>k (a.2.2.2,a.1,a.2.1,a.2.2.1)
def M.oL c c1 c2:=M.Lr c c1 c2 some
def C.oL:=fTa S.oL (λx=>M.Lr x.2.1.1 x.2.1.2.1 x.2.1.2.2.1) [] [F.Jj]
def M.EZ(s:(au×Int×Int)⊕zax)(kn:(au×Int×Int)⊕zax->Option R)(ke:au×Int×Int×au->Option R):Option R:=match s with
 | .inl (v,v1,v2)=>(M.aV 4 v v1 v2).bind λc=>((M.eP (i64.wrap (1+c.1)) c.2.1 c.2.2.1 c.2.2.2).bind λa=>bif decide ((↑a.1.length:Int)<=60) then(ke (a.2.1,a.2.2.1,a.2.2.2,a.1)) else kn (.inr (false,a.2.1,a.2.2.1,a.2.2.2,a.1)))
 | .inr (v11,v,v1,v2,x')=>(M.aV 4 v v1 v2).bind λd=>(M.eP (i64.wrap (1+d.1)) d.2.1 d.2.2.1 d.2.2.2).bind λb=>bif decide ((↑b.1.length:Int)<=60) then(ke (b.2.1,b.2.2.1,b.2.2.2,b.1)) else kn (.inr (false,b.2.1,b.2.2.1,b.2.2.2,b.1))
def M.E5 s:=M.EZ s (λs=>some (Sum.inl s)) λt=>some (Sum.inr t)
def M.Qs s:=dU (M.E5) s
def F.Qs:LE X0 45:=le 1 (pOr (Gj [bH 0 (pP 100000 0)] [bH 100000 zbd]) (Gj [bH 0 (pP 100000 0),bH 3 (pO 300000 0),bH 11 pB] [bH 100000 zbd,bH 300000 zbb])) (σ:=(au×Int×Int)⊕zax) (λx=>(match x with| .inl x=> .inl ((x.2.1.1,x.2.1.2.1,x.2.1.2.2.1))| .inr x=> .inr ((x.1.2.2.1,x.2.1.1,x.2.1.2.1,x.2.1.2.2.1,x.2.2.1)))) (λx s=>(match s with| .inl s=> .inl ((((),()),((s.1,s.2.1,s.2.2,()),())))| .inr s=> .inr ((((),(),s.1,()),((s.2.1,s.2.2.1,s.va.1,()),s.va.2,()))))) (λx=> .leaf (au×Int×Int×au) (λt=>(Ex.ret,⟨[(2,V.own 300000 0)],[(100000,Cell.box 45 [F9 1 t.1,iQ t.2.1,iQ t.2.2.1]),(300000,Cell.arr false false 0 5 t.va)]⟩))) (λx=>M.EZ) [fe C.aV,fe C.eP] [] (by rintro _ _ (⟨_,_,_⟩|⟨_,_,_,_,_⟩) _ _<;>unfold M.EZ<;>exact zbn) (hE:=by intro _ _ s _;rcases s with s|s<;>kernel_rfl)
abbrev M.TF(c:au)(c1 c2:Int)(k:au×au×Int×Int->Option R):=(M.Qs (.inl (c,c1,c2))).bind λa=>k (a.2.2.2,a.1,a.2.1,a.2.2.1)
def M.BL c c1 c2:=M.TF c c1 c2 some
def C.BL:=fTa S.BL (λx=>M.TF x.2.1.1 x.2.1.2.1 x.2.1.2.2.1) [] [F.Qs]
abbrev M.Vr(c:au)(c1 c2:Int)(k:au×au×Int×Int->Option R):=(M.aV 5 c c1 c2).bind λa=>cond (a.1==0) ((M.BL a.2.1 a.2.2.1 a.2.2.2).bind λf=>k (f.1,f.2.1,f.2.2.1,f.2.2.2)) (cond (a.1==1) ((M.BL a.2.1 a.2.2.1 a.2.2.2).bind λd=>k (d.1,d.2.1,d.2.2.1,d.2.2.2)) (cond (a.1==2) ((M.qX 2 a.2.1 a.2.2.1 a.2.2.2).bind λb=>k (b.1,b.2.1,b.2.2.1,b.2.2.2)) ((M.oL a.2.1 a.2.2.1 a.2.2.2).bind λe=>k (e.1,e.2.1,e.2.2.1,e.2.2.2))))
def M.DW c c1 c2:=M.Vr c c1 c2 some
def C.DW:=fTa S.DW (λx=>M.Vr x.2.1.1 x.2.1.2.1 x.2.1.2.2.1) [fe C.aV,fe C.BL,fe C.qX,fe C.oL]
abbrev M.TG(c:au)(c1 c2:Int)(k:Bool×au×au×Int×Int->Option R):=(M.DW c c1 c2).bind λa=>(M.aV ((↑a.1.length:Int)) a.2.1 a.2.2.1 a.2.2.2).bind λb=>(M.aV 12 b.2.1 b.2.2.1 b.2.2.2).bind λd=>cond (d.1==0) ((cut (aG a.1) 0 b.1).bind λn=>k (false,n,d.2.1,d.2.2.1,d.2.2.2)) (cond (d.1==1) ((idx a.1 b.1).bind λu=>a.1[b.1.toNat]?.bind λm=>(aoY 1 m 4).bind λl=>cond (ay l) ((M.fP ([[D.int .i64 (-1)],[D.int .i64 b.1],[D.int .i64 0],[D.int .i64 99]]) d.2.1 d.2.2.1 d.2.2.2).bind λh=>jH l [[D.int .i64 h.1]] 8 λp=>(idx a.1 b.1).bind λv=>cond (ay p) (cond (true &&(b.1.toNat.beq b.1.toNat &&(true && [D.sl true 1 p].length.beq 1))) (a.1[b.1.toNat]?.bind λr=>k (true,a.1.set b.1.toNat (splice r 4 [D.sl true 1 p]),h.2.1,h.2.2.1,h.2.2.2)) none) none) none) (cond (d.1==2) ((idx a.1 b.1).bind λw=>a.1[b.1.toNat]?.bind λq=>(aoY 1 q 4).bind λi=>cond (ay i) (cond (ay i) (a.1[b.1.toNat]?.bind λe=>cond (decide ((↑i.length:Int)>0)) ((idx (a.1.set b.1.toNat (splice e 4 [D.sl true 1 i])) b.1).bind λt=>((a.1.set b.1.toNat (splice e 4 [D.sl true 1 i]))[b.1.toNat]?).bind λs=>(aoY 1 s 4).bind λf=>cond (ay f) ((M.aV (i64.wrap (b.1+1)) d.2.1 d.2.2.1 d.2.2.2).bind λg=>(idx f 0).bind λx=>f[0]?.bind λj=>cond (ay (f.set 0 (splice j 0 [D.int .i64 (i64.wrap (g.1 - 1))]))) (((a.1.set b.1.toNat (splice e 4 [D.sl true 1 i]))[b.1.toNat]?).bind λo=>k (true,(a.1.set b.1.toNat (splice e 4 [D.sl true 1 i])).set b.1.toNat (splice o 4 [D.sl true 1 (f.set 0 (splice j 0 [D.int .i64 (i64.wrap (g.1 - 1))]))]),g.2.1,g.2.2.1,g.2.2.2)) none) none) (k (true,a.1.set b.1.toNat (splice e 4 [D.sl true 1 i]),d.2.1,d.2.2.1,d.2.2.2))) none) none) (cond (d.1==3) (cond (((a.1.length+a.1.length) * 72).ble 140737488355328 &&(a.1.length+a.1.length).ble 140737488355328) (k (false,aG a.1++aG a.1,d.2.1,d.2.2.1,d.2.2.2)) none) (k (true,a.1,d.2.1,d.2.2.1,d.2.2.2)))))
def M.Gp c c1 c2:=M.TG c c1 c2 some
def C.Gp:=fTa S.Gp (λx=>M.TG x.2.1.1 x.2.1.2.1 x.2.1.2.2.1) [fe C.DW,fe C.aV,fe C.fP]
abbrev M.Ol(c:au)(c1 c2:Int)(k:Bool×au×au×Int×Int->Option R):=(M.DW c c1 c2).bind λd=>(M.aV ((↑d.1.length:Int)) d.2.1 d.2.2.1 d.2.2.2).bind λa=>(M.aV 14 a.2.1 a.2.2.1 a.2.2.2).bind λb=>cond (b.1==0) ((M.aV 47 b.2.1 b.2.2.1 b.2.2.2).bind λh=>(idx d.1 a.1).bind λr=>d.1[a.1.toNat]?.bind λm=>k (true,d.1.set a.1.toNat (splice m 0 [D.int .i64 h.1]),h.2.1,h.2.2.1,h.2.2.2)) (cond (b.1==1) ((M.fP ([[D.int .i64 0],[D.int .i64 1],[D.int .i64 56],[D.int .i64 99],[D.int .i64 54],[D.int .i64 51],[D.int .i64 (-1)]]) b.2.1 b.2.2.1 b.2.2.2).bind λi=>(idx d.1 a.1).bind λq=>d.1[a.1.toNat]?.bind λj=>k (true,d.1.set a.1.toNat (splice j 1 [D.int .i64 i.1]),i.2.1,i.2.2.1,i.2.2.2)) (cond (b.1==2) ((M.iR ([[D.str []],[D.str [120]],[D.str [105,102]],[D.str [108,101,110,103,116,104]],[D.str [49]],[D.str [47]]]) b.2.1 b.2.2.1 b.2.2.2).bind λg=>(idx d.1 a.1).bind λp=>d.1[a.1.toNat]?.bind λn=>k (true,d.1.set a.1.toNat (splice n 2 [D.str g.1]),g.2.1,g.2.2.1,g.2.2.2)) (cond (b.1==3) ((M.iR ([[D.str []],[D.str [62]],[D.str [120]]]) b.2.1 b.2.2.1 b.2.2.2).bind λf=>(idx d.1 a.1).bind λo=>d.1[a.1.toNat]?.bind λl=>k (true,d.1.set a.1.toNat (splice l 3 [D.str f.1]),f.2.1,f.2.2.1,f.2.2.2)) (cond (b.1==4) ((M.Gp b.2.1 b.2.2.1 b.2.2.2).bind λe=>k (false,aG e.2.1,e.2.2.1,e.2.2.2.1,e.2.2.2.2)) (k (true,d.1,b.2.1,b.2.2.1,b.2.2.2))))))
def M.yY c c1 c2:=M.Ol c c1 c2 some
def C.yY:=fTa S.yY (λx=>M.Ol x.2.1.1 x.2.1.2.1 x.2.1.2.2.1) [fe C.DW,fe C.aV,fe C.fP,fe C.iR,fe C.Gp]
abbrev M.Om(c:au)(c1 c2:Int)(k:Int×au×Int×Int->Option R):=(M.fP ([[D.int .i64 0],[D.int .i64 1],[D.int .i64 8],[D.int .i64 15],[D.int .i64 20],[D.int .i64 30],[D.int .i64 40],[D.int .i64 60],[D.int .i64 80],[D.int .i64 80],[D.int .i64 10000],[D.int .i64 10001],[D.int .i64 (-1)],[D.int .i64 25],[D.int .i64 10]]) c c1 c2).bind λa=>k (a.1,a.2.1,a.2.2.1,a.2.2.2)
def M.vM c c1 c2:=M.Om c c1 c2 some
def C.vM:=fTa S.vM (λx=>M.Om x.2.1.1 x.2.1.2.1 x.2.1.2.2.1) [fe C.fP]
abbrev M.Ls(code:au)(k:Bool×au×Int->Option R):=(M.J5 code).bind λd=>(M.oL d.1 d.2.1 d.2.2).bind λc=>(M.lQ 8 c.2.1 c.2.2.1 c.2.2.2).bind λa=>cond a.1 ((M.yY a.2.1 a.2.2.1 a.2.2.2).bind λb=>(M.vM b.2.2.1 b.2.2.2.1 b.2.2.2.2).bind λe=>k (false,aG b.2.1,e.1)) ((M.vM a.2.1 a.2.2.1 a.2.2.2).bind λf=>k (true,c.1,f.1))
def M.wI code:=M.Ls code some
def C.wI:=fTa S.wI (λx=>M.Ls x.1.1) [fe C.J5,fe C.oL,fe C.lQ,fe C.yY,fe C.vM]
def C.lu:S.lu.ok X0 λx=>M.lu x.1.1:=dQ.Zx (p:=Prim.lu)
abbrev M.Qu(l:au)(k:Bool->Option R):=(M.lu l).bind λa=>k a.2
def M.BM l:=M.Qu l some
def C.BM:=fTa S.BM (λx=>M.Qu x.1.1) [fe C.lu]
abbrev M.zq(n' low high:Int)(k:Bool->Option R):=cond (decide (n'>=low)) (k (decide (n'<=high))) (k false)
def M.bK n' low high:=M.zq n' low high some
def C.bK:=fTa S.bK (λx=>M.zq x.1.1 x.1.2.1 x.1.2.2.1)
abbrev M.lC(kind:Int)(k:Bool->Option R):=(M.bK kind 1 15).bind λa=>k a
def M.fC kind:=M.lC kind some
def C.fC:=fTa S.fC (λx=>M.lC x.1.1) [fe C.bK]
abbrev M.Oo(b:Int)(k:Bool->Option R):=cond (decide (b>=97)) (cond (decide (b<=122)) (k true) (cond (decide (b>=65)) (cond (decide (b<=90)) (k true) (k (b==95))) (k (b==95)))) (cond (decide (b>=65)) (cond (decide (b<=90)) (k true) (k (b==95))) (k (b==95)))
def M.rU b:=M.Oo b some
def C.rU:=fTa S.rU (λx=>M.Oo x.1.1)
abbrev M.Qv(b:Int)(k:Bool->Option R):=cond (decide (b>=48)) (k (decide (b<=57))) (k false)
def M.vN b:=M.Qv b some
def C.vN:=fTa S.vN (λx=>M.Qv x.1.1)
abbrev M.Jk(b:Int)(k:Bool->Option R):=(M.rU b).bind λa=>cond a (k true) ((M.vN b).bind λc=>k c)
def M.lF b:=M.Jk b some
def C.lF:=fTa S.lF (λx=>M.Jk x.1.1) [fe C.rU,fe C.vN]
def M.yc(s':aA)(v5 s:Int)(kn:Int->Option R)(ke:(Unit)⊕(Int)->Option R):Option R:=match s with
 |v6=>bif decide (v6<v5) then((idx s' v6).bind λa=>(M.lF (i64.wrap (↑a.toNat:Int))).bind λb=>bif !b then(ke (.inl ())) else kn (i64.wrap (v6+1))) else ke (.inr v6)
def M.Ew s' v5 s:=M.yc s' v5 s (λs=>some (Sum.inl s)) λt=>some (Sum.inr t)
def M.Jl s' v5 s:=dU (M.Ew s' v5) s
def F.Jl:LE X0 199:=le 2 (Gj [bH 0 pS,bH 5 pI,bH 6 pI] []) (λx=>x.1.2.2.1) (λx s=>((x.1.1,x.1.2.1,s,()),())) (λx=> .sum (.leaf (Unit) (λt=>(Ex.ret,⟨[(2,uX false)],[]⟩))) (.leaf (Int) (λt=>(Ex.exit 0,⟨[(0,yG x.1.1),(5,iQ x.1.2.1),(6,iQ t),(7,uX false)],[]⟩)))) (λx=>M.yc x.1.1 x.1.2.1) [fe C.lF] [] (by rintro _ _ _ _ _<;>simp only[M.yc,nb]<;>rfl)
abbrev M.Lu(s':aA)(k:Bool->Option R):=(M.Jl s' ((↑s'.length:Int)) 0).bind λb=>rO b (λf=>k false) λa=>letE a λg=>(M.bK ((↑s'.length:Int)) 1 12).bind λd=>cond d ((idx s' 0).bind λe=>(M.rU (i64.wrap (↑e.toNat:Int))).bind λc=>k c) (k false)
def M.wJ s':=M.Lu s' some
def C.wJ:=fTa S.wJ (λx=>M.Lu x.1.1) [fe C.bK,fe C.rU] [F.Jl]
def M.Ci(s':au)(v:aA)(v7 s:Int)(kn:Int->Option R)(ke:(Int)⊕(Int)->Option R):Option R:=match s with
 |v8=>bif decide (v8<v7) then((idx s' v8).bind λa=>(cStr a 0).bind λb=>bif v==b then(ke (.inl v8)) else kn (i64.wrap (v8+1))) else ke (.inr v8)
def M.Jm s' v v7 s:=M.Ci s' v v7 s (λs=>some (Sum.inl s)) λt=>some (Sum.inr t)
def M.Oq s' v v7 s:=dU (M.Jm s' v v7) s
def F.Oq:LE X0 205:=le 2 (Gj [bH 0 (pL false 1),bH 1 pS,bH 7 pI,bH 8 pI] []) (λx=>x.1.va.1) (λx s=>((x.1.1,x.1.2.1,x.1.2.2.1,s,()),())) (λx=> .sum (.leaf (Int) (λt=>(Ex.ret,⟨[(4,iQ t)],[]⟩))) (.leaf (Int) (λt=>(Ex.exit 0,⟨[(0,F9 1 x.1.1),(1,yG x.1.2.1),(7,iQ x.1.2.2.1),(8,iQ t),(9,uX false)],[]⟩)))) (λx=>M.Ci x.1.1 x.1.2.1 x.1.2.2.1) [] [] (by rintro _ _ _ _ _<;>simp only[M.Ci,nb]<;>rfl)
abbrev M.Qw(s':au)(v:aA)(k:Int->Option R):=(M.Oq s' v ((↑s'.length:Int)) 0).bind λc=>rO c (λa=>k a) λb=>letE b λd=>k (-1)
def M.slices_Index s' v:=M.Qw s' v some
def C.slices_Index:=fTa S.slices_Index (λx=>M.Qw x.1.1 x.1.2.1) [] [F.Oq]
abbrev M.LC(s':aA)(k:Int->Option R):=(M.slices_Index (List.map (λx=>[x]) Gm) s').bind λa=>cond (decide (a<0)) (k 0) (k (i64.wrap (10+a)))
def M.wL s':=M.LC s' some
def C.wL:=fTa S.wL (λx=>M.LC x.1.1) [fe C.slices_Index]
abbrev M.Cj(s':au)(v:aA)(k:Bool->Option R):=(M.slices_Index s' v).bind λa=>k (decide (a>=0))
def M.slices_Contains(s':au)(v:aA):Option (Bool):=M.Cj s' v some
def C.slices_Contains:=fTa S.slices_Contains (λx=>M.Cj x.1.1 x.1.2.1) [fe C.slices_Index]
abbrev M.LD(s':aA)(k:Bool->Option R):=(M.slices_Contains (List.map (λx=>[x]) PW) s').bind λa=>k a
def M.nU s':=M.LD s' some
def C.nU:=fTa S.nU (λx=>M.LD x.1.1) [fe C.slices_Contains]
abbrev M.TI(s':aA)(k:Bool->Option R):=(M.wJ s').bind λa=>cond a ((M.wL s').bind λb=>cond (b==0) ((M.nU s').bind λc=>k !c) (k false)) (k false)
def M.lq s':=M.TI s' some
def C.lq:=fTa S.lq (λx=>M.TI x.1.1) [fe C.wJ,fe C.wL,fe C.nU]
def C.strings_Contains:S.strings_Contains.ok X0 λx=>M.strings_Contains x.1.1 x.1.2.1:=dQ.Zx (p:=Prim.strings_Contains)
abbrev M.TJ(s':aA)(at':Int)(k:Int->Option R):=(M.bK at' 0 (i64.wrap ((↑s'.length:Int) - 1))).bind λb=>cond (!b) (k (-1)) ((idx s' at').bind λa=>k (i64.wrap (↑a.toNat:Int)))
def M.nJ s' at':=M.TJ s' at' some
def C.nJ:=fTa S.nJ (λx=>M.TJ x.1.1 x.1.2.1) [fe C.bK]
def M.Ey(s':aA)(s:Int)(kn:Int->Option R)(ke:Int->Option R):Option R:=match s with
 |at'=>(M.nJ s' at').bind λb=>(M.vN b).bind λa=>bif a then(kn (i64.wrap (at'+1))) else ke at'
def M.U8 s' s:=M.Ey s' s (λs=>some (Sum.inl s)) λt=>some (Sum.inr t)
def M.Jo s' s:=dU (M.U8 s') s
def F.Jo:LE X0 228:=le 1 (Gj [bH 0 pS,bH 1 pI] []) (λx=>x.1.2.1) (λx s=>((x.1.1,s,()),())) (λx=> .leaf (Int) (λt=>(Ex.exit 0,⟨[(0,yG x.1.1),(1,iQ t),(8,uX false)],[]⟩))) (λx=>M.Ey x.1.1) [fe C.nJ,fe C.vN] [] (by rintro _ _ _ _ _<;>simp only[M.Ey,nb]<;>rfl)
abbrev M.LG(s':aA)(at':Int)(k:Int->Option R):=(M.Jo s' at').bind λa=>k a
def M.jf s' at':=M.LG s' at' some
def C.jf:=fTa S.jf (λx=>M.LG x.1.1 x.1.2.1) [] [F.Jo]
abbrev M.E8(s':aA)(aa9:Int)(k:Int->Option R):=(M.nJ s' (i64.wrap (aa9+1))).bind λb=>cond (b==43) ((M.jf s' (i64.wrap (i64.wrap (aa9+1)+1))).bind λa=>cond (decide (a>i64.wrap (i64.wrap (aa9+1)+1))) (k a) (k aa9)) (cond (b==45) ((M.jf s' (i64.wrap (i64.wrap (aa9+1)+1))).bind λd=>cond (decide (d>i64.wrap (i64.wrap (aa9+1)+1))) (k d) (k aa9)) ((M.jf s' (i64.wrap (aa9+1))).bind λc=>cond (decide (c>i64.wrap (aa9+1))) (k c) (k aa9)))
def M.TK(s':aA)(at':Int)(k:Int->Option R):=(M.bK at' 0 (i64.wrap ((↑s'.length:Int) - 1))).bind λe=>cond (!e) (k (-1)) ((M.jf s' at').bind λa=>(M.nJ s' a).bind λf=>cond (f==46) ((M.jf s' (i64.wrap (a+1))).bind λb=>cond (i64.wrap (i64.wrap (a - at')+i64.wrap (i64.wrap (b - a) - 1))==0) (k (-1)) ((M.nJ s' b).bind λc=>cond (c==101) (M.E8 s' b k) (cond (c==69) (M.E8 s' b k) (k b)))) (cond (i64.wrap (a - at')==0) (k (-1)) ((M.nJ s' a).bind λd=>cond (d==101) (M.E8 s' a k) (cond (d==69) (M.E8 s' a k) (k a)))))
def M.Gq s' at':=M.TK s' at' some
def C.Gq:S.Gq.ok X0 λx=>M.Gq x.1.1 x.1.2.1:=fnS (λx=>M.TK x.1.1 x.1.2.1) [fe C.bK,fe C.jf,fe C.nJ] [] (by intros;unfold M.TK M.E8;exact zbn)
def M.ug(s':aA)(quote s:Int)(kn:Int->Option R)(ke:(Int)⊕(Int)->Option R):Option R:=match s with
 |i=>bif decide (i<(↑s'.length:Int)) then((idx s' i).bind λb=>bif(↑b.toNat:Int) !=10 then((idx s' i).bind λa=>bif i64.wrap (↑a.toNat:Int)==quote then(ke (.inl (i64.wrap (i+1)))) else (idx s' i).bind λd=>bif(↑d.toNat:Int)==92 then((M.nJ s' (i64.wrap (i+1))).bind λc=>bif c !=10 then(kn (i64.wrap (i64.wrap (i+1)+1))) else kn (i64.wrap (i+1))) else kn (i64.wrap (i+1))) else ke (.inr i)) else ke (.inr i)
def M.yg s' quote s:=M.ug s' quote s (λs=>some (Sum.inl s)) λt=>some (Sum.inr t)
def M.sU s' quote s:=dU (M.yg s' quote) s
def F.sU:LE X0 230:=le 4 (Gj [bH 0 pS,bH 2 pI,bH 7 pI] []) (λx=>x.1.2.2.1) (λx s=>((x.1.1,x.1.2.1,s,()),())) (λx=> .sum (.leaf (Int) (λt=>(Ex.ret,⟨[(6,iQ t)],[]⟩))) (.leaf (Int) (λt=>(Ex.exit 0,⟨[(0,yG x.1.1),(2,iQ x.1.2.1),(7,iQ t),(24,uX false)],[]⟩)))) (λx=>M.ug x.1.1 x.1.2.1) [fe C.nJ] [] (by rintro _ _ _ _ _<;>simp only[M.ug,nb]<;>rfl)
abbrev M.LH(s':aA)(at' quote:Int)(k:Int->Option R):=(M.nJ s' at').bind λa=>cond (a !=quote) (k (-1)) ((M.sU s' quote (i64.wrap (at'+1))).bind λc=>rO c (λd=>k d) λb=>letE b λe=>k (-1))
def M.qx s' at' quote:=M.LH s' at' quote some
def C.qx:=fTa S.qx (λx=>M.LH x.1.1 x.1.2.1 x.1.2.2.1) [fe C.nJ] [F.sU]
abbrev M.TL(s':aA)(at':Int)(k:Int->Option R):=(M.qx s' at' 34).bind λa=>k a
def M.Gs s' at':=M.TL s' at' some
def C.Gs:=fTa S.Gs (λx=>M.TL x.1.1 x.1.2.1) [fe C.qx]
abbrev M.TM(s':aA)(at':Int)(k:Int->Option R):=(M.qx s' at' 47).bind λa=>cond (a==i64.wrap (at'+2)) (k (-1)) (k a)
def M.Gt s' at':=M.TM s' at' some
def C.Gt:=fTa S.Gt (λx=>M.TM x.1.1 x.1.2.1) [fe C.qx]
abbrev M.Cm(kind:Int)(k:Bool->Option R):=(M.bK kind 10 26).bind λa=>k a
def M.qR kind:=M.Cm kind some
def C.qR:=fTa S.qR (λx=>M.Cm x.1.1) [fe C.bK]
abbrev M.CB(kind:Int)(k:Bool->Option R):=(M.bK kind 30 68).bind λa=>k a
def M.nV kind:=M.CB kind some
def C.nV:=fTa S.nV (λx=>M.CB x.1.1) [fe C.bK]
abbrev M.Qx(kind:Int)(k:aA->Option R):=cond (kind==1) (k [10]) ((M.qR kind).bind λb=>cond b (cond (decide (0<=i64.wrap (kind - 10)) && decide (i64.wrap (kind - 10)<17)) ((cStr Gm (0+(i64.wrap (kind - 10)).toNat * 1)).bind λc=>k c) none) ((M.nV kind).bind λd=>cond d (cond (decide (0<=i64.wrap (kind - 30)) && decide (i64.wrap (kind - 30)<39)) ((cStr V9 (0+(i64.wrap (kind - 30)).toNat * 1)).bind λa=>k a) none) (k [])))
def M.jI kind:=M.Qx kind some
def C.jI:=fTa S.jI (λx=>M.Qx x.1.1) [fe C.qR,fe C.nV]
abbrev M.Qy(t':Int)(gW:aA)(iG:Int)(k:Bool->Option R):=cond (gW==[]) (k false) (cond (t'==2) ((idx gW 0).bind λc=>cond ((↑c.toNat:Int)==35) ((M.strings_Contains gW [10]).bind λe=>k !e) (k false)) (cond (t'==3) ((M.Gq gW 0).bind λf=>k (f==(↑gW.length:Int))) (cond (t'==4) ((M.Gs gW 0).bind λh=>k (h==(↑gW.length:Int))) (cond (t'==5) ((M.Gt gW 0).bind λd=>k (d==(↑gW.length:Int))) (cond (t'==6) ((M.lq gW).bind λg=>k g) (cond (t'==7) ((M.lq gW).bind λi=>k i) (cond (t'==8) ((M.nU gW).bind λa=>k a) ((M.jI t').bind λb=>k (gW==b)))))))))
def M.vO t' gW iG:=M.Qy t' gW iG some
def C.vO:=fTa S.vO (λx=>M.Qy x.1.1.1 x.1.1.2.1 x.1.1.2.2.1) [fe C.strings_Contains,fe C.Gq,fe C.Gs,fe C.Gt,fe C.lq,fe C.nU,fe C.jI]
abbrev M.nG(kind:Int)(k:Bool->Option R):=cond (kind==51) (k true) (k (kind==52))
def M.l9 kind:=M.nG kind some
def C.l9:=fTa S.l9 (λx=>M.nG x.1.1)
abbrev M.Ku(op':Int)(k:Int->Option R):=cond (op'==44) (k 3) (cond (op'==45) (k 4) (cond (op'==67) (k 6) (cond (op'==46) (k 6) (cond (op'==63) (k 7) (cond (op'==48) (k 7) (cond (op'==47) (k 7) (cond (op'==50) (k 7) (cond (op'==62) (k 7) (cond (op'==49) (k 7) (cond (op'==99) (k 8) (cond (op'==55) (k 9) (cond (op'==56) (k 9) (cond (op'==57) (k 10) (cond (op'==58) (k 10) (cond (op'==59) (k 10) (cond (op'==60) (k 12) (k 0)))))))))))))))))
def M.ou op':=M.Ku op' some
def C.ou:=fTa S.ou (λx=>M.Ku x.1.1)
abbrev M.Ot(kind:Int)(k:Bool->Option R):=cond (kind==54) (k true) ((M.bK kind 38 43).bind λa=>k a)
def M.yZ kind:=M.Ot kind some
def C.yZ:=fTa S.yZ (λx=>M.Ot x.1.1) [fe C.bK]
abbrev M.jm(n':Int)(iO:aA)(k:Bool×Bool×Bool×Int×Int->Option R)(gq:Int):=cond (decide (0<=i64.wrap (n' - 2)) && decide (i64.wrap (n' - 2)<3)) ((bM .i64 [D.int .i64 3,D.int .i64 4,D.int .i64 5] (i64.wrap (n' - 2)).toNat).bind λa=>(M.vO a iO 0).bind λb=>k (gq==0,b,false,0,0)) none
def M.kM(n' gq:Int)(iO iM:aA)(jv:au)(k:Bool×Bool×Bool×Int×Int->Option R):=cond (n'==1) ((M.lq iO).bind λf=>k (gq==0,f,false,0,0)) (cond (n'==2) (M.jm n' iO k gq) (cond (n'==3) (M.jm n' iO k gq) (cond (n'==4) (M.jm n' iO k gq) (cond (n'==5) ((M.lq iO).bind λb=>k (gq==0,b,false,1,6)) (cond (n'==13) ((M.lq iO).bind λd=>k (gq==0,d,false,1,6)) (cond (n'==6) (k (gq==0,iO==[],false,1,1)) (cond (n'==7) ((M.lq iO).bind λi=>k (gq==0,i,false,0,6)) (cond (n'==8) ((M.nU iO).bind λh=>k (gq==0,h,false,0,6)) (cond (n'==9) ((M.l9 gq).bind λa=>k (a,iO==[],false,1,1)) (cond (n'==10) ((M.l9 gq).bind λc=>k (c,iO==[],false,1,1)) (cond (n'==11) (cond (gq==55) (k (true,iO==[],false,1,1)) (cond (gq==56) (k (true,iO==[],false,1,1)) (k (gq==61,iO==[],false,1,1)))) (cond (n'==12) ((M.ou gq).bind λg=>k (g !=0,iO==[],false,2,2)) (cond (n'==14) (k (gq==0,iO==[],false,3,3)) ((M.yZ gq).bind λe=>k (e,iO==[],false,2,2)))))))))))))))
def M.jY n' gq iO iM jv:=M.kM n' gq iO iM jv some
def C.jY:S.jY.ok X0 λx=>bJ M.jY x.1.1:=fnS (λx=>M.kM x.1.1.1 x.1.1.2.1 x.1.1.2.2.1 x.1.1.va.1 x.1.1.va.2.1) [fe C.lq,fe C.vO,fe C.nU,fe C.l9,fe C.ou,fe C.yZ] [] (by intros;unfold M.kM M.jm;exact zbn)
abbrev M.lD(kind:Int)(k:Bool->Option R):=(M.bK kind 20 34).bind λa=>k a
def M.jS kind:=M.lD kind some
def C.jS:=fTa S.jS (λx=>M.lD x.1.1) [fe C.bK]
abbrev M.kN(n' gq:Int)(iO iM:aA)(jv:au)(k:Bool×Bool×Bool×Int×Int->Option R):=cond (n'==20) (k (gq==0,iO==[],iM==[],1,1)) (cond (n'==21) (cond (gq==0) ((M.slices_Contains ([[D.str []],[D.str [62]],[D.str [62,62]],[D.str [124]]]) iM).bind λa=>cond (!iM==[]) (k (true,iO==[],a,i64.wrap (gq+1),7)) (k (true,iO==[],a,gq,6))) ((M.slices_Contains ([[D.str []],[D.str [62]],[D.str [62,62]],[D.str [124]]]) iM).bind λb=>cond (!iM==[]) (k (gq==1,iO==[],b,i64.wrap (gq+1),7)) (k (gq==1,iO==[],b,gq,6)))) (cond (n'==23) (k (gq==0,iO==[],iM==[],0,1)) (cond (n'==24) (k (gq==0,iO==[],iM==[],0,1)) (cond (n'==27) ((M.lq iO).bind λd=>k (gq==0,d,iM==[],0,6)) (cond (n'==28) (k (gq==0,iO==[],iM==[],2,3)) (cond (n'==29) (k (gq==0,iO==[],iM==[],2,2)) (cond (n'==30) (k (gq==0,iO==[],iM==[],2,2)) (cond (n'==31) (k (gq==0,iO==[],iM==[],4,4)) (cond (n'==32) ((M.lq iO).bind λf=>(M.lq iM).bind λc=>k (gq==0,f,c,1,1)) (cond (n'==33) (k (gq==0,iO==[],iM==[],0,400)) (cond (n'==34) ((M.vO 2 iO 0).bind λe=>k (gq==0,e,iM==[],0,0)) (k (gq==0,iO==[],iM==[],0,0)))))))))))))
def M.jZ n' gq iO iM jv:=M.kN n' gq iO iM jv some
def C.jZ:=fTa S.jZ (λx=>M.kN x.1.1.1 x.1.1.2.1 x.1.1.2.2.1 x.1.1.va.1 x.1.1.va.2.1) [fe C.slices_Contains,fe C.lq,fe C.vO]
abbrev M.kP(n' gq:Int)(iO iM:aA)(jv:au)(k:Bool×Bool×Bool×Int×Int->Option R):=cond (n'==40) (k (gq==0,iO==[],iM==[],1,1)) (cond (n'==41) (k (gq==0,iO==[],iM==[],1,1)) (cond (n'==42) ((M.bK gq 1 3).bind λa=>cond (gq==3) (k (a,iO==[],iM==[],2,2)) (k (a,iO==[],iM==[],1,1))) (cond (n'==43) (cond (gq==1) (cond (gq==3) (k (true,iO==[],iM==[],3,3)) (k (true,iO==[],iM==[],2,2))) (cond (gq==3) (k (gq==3,iO==[],iM==[],3,3)) (k (gq==3,iO==[],iM==[],2,2)))) (cond (n'==44) ((M.lq iO).bind λb=>k (gq==0,b,iM==[],1,7)) (k (gq==0,iO==[],iM==[],0,400))))))
def M.kC n' gq iO iM jv:=M.kP n' gq iO iM jv some
def C.kC:=fTa S.kC (λx=>M.kP x.1.1.1 x.1.1.2.1 x.1.1.2.2.1 x.1.1.va.1 x.1.1.va.2.1) [fe C.bK,fe C.lq]
abbrev M.jO(n' gq:Int)(iO iM:aA)(jv:au)(k:Bool->Option R):=(M.fC n').bind λd=>cond d ((M.jY n' gq iO iM jv).bind λc=>cond c.1 (cond c.2.1 (cond (iM==[]) ((M.bK ((↑jv.length:Int)) c.2.2.2.1 c.2.2.2.2).bind λg=>k g) (k false)) (k false)) (k false)) (cond (n'==16) (cond (gq==0) (cond (iO==[]) (cond (iM==[]) ((M.bK ((↑jv.length:Int)) 0 0).bind λi=>k i) (k false)) (k false)) (k false)) ((M.jS n').bind λf=>cond f ((M.jZ n' gq iO iM jv).bind λa=>cond a.1 (cond a.2.1 (cond a.2.2.1 ((M.bK ((↑jv.length:Int)) a.2.2.2.1 a.2.2.2.2).bind λe=>k e) (k false)) (k false)) (k false)) ((M.bK n' 40 45).bind λj=>cond j ((M.kC n' gq iO iM jv).bind λb=>cond b.1 (cond b.2.1 (cond b.2.2.1 ((M.bK ((↑jv.length:Int)) b.2.2.2.1 b.2.2.2.2).bind λh=>k h) (k false)) (k false)) (k false)) (k false))))
def M.iZ n' gq iO iM jv:=M.jO n' gq iO iM jv some
def C.iZ:=fTa S.iZ (λx=>M.jO x.1.1.1 x.1.1.2.1 x.1.1.2.2.1 x.1.1.va.1 x.1.1.va.2.1) [fe C.fC,fe C.jY,fe C.bK,fe C.jS,fe C.jZ,fe C.kC]
abbrev M.Ou(kind:Int)(k:Bool->Option R):=cond (kind==1) (k true) (cond (kind==5) (k true) (k (kind==6)))
def M.rV kind:=M.Ou kind some
def C.rV:=fTa S.rV (λx=>M.Ou x.1.1)
abbrev M.TN(kind:Int)(k:Bool->Option R):=(M.bK kind 40 44).bind λa=>k a
def M.Gu kind:=M.TN kind some
def C.Gu:=fTa S.Gu (λx=>M.TN x.1.1) [fe C.bK]
abbrev M.aW(n' gq:Int)(iO iM:aA)(jv:au)(k' kid:Int)(k:Bool->Option R):=cond (n'==9) ((M.rV kid).bind λc=>k c) (cond (n'==10) ((M.rV kid).bind λa=>k a) (cond (n'==15) (cond (k'==0) ((M.rV kid).bind λe=>cond e (k true) (cond (decide (k'>0)) ((M.fC kid).bind λq=>k q) (k false))) (cond (decide (k'>0)) ((M.fC kid).bind λf=>k f) (k false))) (cond (n'==28) (cond (decide (k'>0)) (k (kid==33)) ((M.fC kid).bind λj=>k j)) (cond (n'==29) (cond (decide (k'>0)) (k (kid==33)) ((M.fC kid).bind λh=>k h)) (cond (n'==31) (cond (decide (k'<3)) (cond (kid==16) (k true) (cond (k'==i64.wrap ((↑jv.length:Int) - 1)) (k (kid==33)) ((M.fC kid).bind λb=>k b))) (cond (k'==i64.wrap ((↑jv.length:Int) - 1)) (k (kid==33)) ((M.fC kid).bind λp=>k p))) (cond (n'==30) (cond (k'==0) (k (kid==33)) ((M.fC kid).bind λr=>k r)) (cond (n'==32) (k (kid==33)) (cond (n'==40) (k (kid==33)) (cond (n'==41) (k (kid==33)) (cond (n'==33) ((M.jS kid).bind λn=>k n) (cond (n'==42) (cond (k'==i64.wrap ((↑jv.length:Int) - 1)) (cond (decide (gq>=2)) (k (kid==33)) ((M.fC kid).bind λi=>k i)) ((M.fC kid).bind λo=>k o)) (cond (n'==43) (cond (k'==i64.wrap ((↑jv.length:Int) - 1)) (cond (gq==3) (k (kid==33)) ((M.fC kid).bind λd=>k d)) ((M.fC kid).bind λl=>k l)) (cond (n'==44) (cond (!k'==i64.wrap ((↑jv.length:Int) - 1)) (k (kid==1)) (k (kid==33))) (cond (n'==45) ((M.Gu kid).bind λm=>cond m (k true) (k (kid==34))) ((M.fC kid).bind λg=>k g)))))))))))))))
def M.bF n' gq iO iM jv k' kid:=M.aW n' gq iO iM jv k' kid some
def C.bF:=fTa S.bF (λx=>M.aW x.1.1.1 x.1.1.2.1 x.1.1.2.2.1 x.1.1.va.1 x.1.1.va.2.1 x.1.2.1 x.1.2.2.1) [fe C.rV,fe C.fC,fe C.jS,fe C.Gu]
def M.mZ(jP:zaq)(s:zaI⊕zaJ)(kn:zaI⊕zaJ->Option R)(ke:zaI⊕zaJ->Option R):Option R:=match s with
 | .inl (l,v23,v24,v25,x',kR,mY,rP,sD,P7,Si,U9)=>bif decide (v25<v24) then((idx v23 v25).bind λd=>(bM .i64 d 0).bind λf=>(jP l f).bind λb=>kn (.inr (l,v23,v24,i64.wrap (v25+1),x',kR,mY,rP,sD,P7,Si,U9,[[D.int .i64 b.1,D.int .i64 b.2.1,D.str b.2.2.1,D.str b.2.2.2.1,D.sl true 5 b.2.2.2.2]]))) else(ke (.inl (l,v23,v24,v25,x',kR,mY,rP,sD,P7,Si,U9)))
 | .inr (l,v23,v24,v25,x',kR,mY,rP,sD,P7,Si,U9,x'8)=>bif decide (v25<v24) then((idx v23 v25).bind λe=>(bM .i64 e 0).bind λc=>(jP l c).bind λa=>jH x'8 [[D.int .i64 a.1,D.int .i64 a.2.1,D.str a.2.2.1,D.str a.2.2.2.1,D.sl true 5 a.2.2.2.2]] 72 λg=>kn (.inr (l,v23,v24,i64.wrap (v25+1),x',kR,mY,rP,sD,P7,Si,U9,g))) else ke (.inr (l,v23,v24,v25,x',kR,mY,rP,sD,P7,Si,U9,x'8))
def M.ng jP s:=M.mZ jP s (λs=>some (Sum.inl s)) λt=>some (Sum.inr t)
def M.Kv jP s:=dU (M.ng jP) s
def F.Kv{jP:zaq}(XC:S.qY.ok X0 λx=>jP x.1.1 x.1.2.1):LE X0 55:=le 4 (pOr (Gj [bH 0 (pL false 5),bH 4 (pP 300000 0),bH 6 (pP 300001 0),bH 23 (pL false 1),bH 24 pI,bH 25 pI] [bH 300000 (cB 55 [pI,pI,pS,pS,aco 5]),bH 300001 (cB 55 [pI,pI,pS,pS,aco 5])]) (Gj [bH 0 (pL false 5),bH 4 (pP 300000 0),bH 6 (pP 300001 0),bH 23 (pL false 1),bH 24 pI,bH 25 pI] [bH 300000 (cB 55 [pI,pI,pS,pS,aco 5]),bH 300001 (cB 55 zbk),bH 300002 zbb])) (σ:=zaI⊕zaJ) (λx=>(match x with| .inl x=> .inl ((x.1.1,x.1.va.1,x.1.va.2.1,x.1.va.2.2.1,x.2.1.1,x.2.1.2.1,x.2.1.2.2.1,x.2.1.va.1,x.2.2.1.1,x.2.2.1.2.1,x.2.2.1.2.2.1,x.2.2.1.va.1))| .inr x=> .inr ((x.1.1,x.1.va.1,x.1.va.2.1,x.1.va.2.2.1,x.2.1.1,x.2.1.2.1,x.2.1.2.2.1,x.2.1.va.1,x.2.2.1.1,x.2.2.1.2.1,x.2.2.1.2.2.1,x.2.2.1.va.1,x.va.1)))) (λx s=>(match s with| .inl s=> .inl (((s.1,(),(),s.2.1,s.2.2.1,s.va.1,()),((s.va.2.1,s.va.2.2.1,s.va.va.1,s.va.va.2.1,(),()),(s.wa.1,s.wa.2.1,s.wa.2.2.1,s.wa.va,(),()),())))| .inr s=> .inr (((s.1,(),(),s.2.1,s.2.2.1,s.va.1,()),((s.va.2.1,s.va.2.2.1,s.va.va.1,s.va.va.2.1,(),()),(s.wa.1,s.wa.2.1,s.wa.2.2.1,s.wa.va.1,(),()),s.wa.va.2,()))))) (λx=> .sum (.leaf zaI (λt=>(Ex.exit 0,⟨[(0,F9 5 t.1),(4,V.ptr 300000 0),(6,V.ptr 300001 0),(23,F9 1 t.2.1),(24,iQ t.2.2.1),(25,iQ t.va.1),(26,uX false)],[(300000,Cell.box 55 [iQ t.va.2.1,iQ t.va.2.2.1,yG t.va.va.1,yG t.va.va.2.1,V.nil 5]),(300001,Cell.box 55 [iQ t.wa.1,iQ t.wa.2.1,yG t.wa.2.2.1,yG t.wa.va,V.nil 5])]⟩))) (.leaf zaJ (λt=>(Ex.exit 0,⟨[(0,F9 5 t.1),(4,V.ptr 300000 0),(6,V.ptr 300001 0),(23,F9 1 t.2.1),(24,iQ t.2.2.1),(25,iQ t.va.1),(26,uX false)],[(300000,Cell.box 55 [iQ t.va.2.1,iQ t.va.2.2.1,yG t.va.va.1,yG t.va.va.2.1,V.nil 5]),(300001,Cell.box 55 [iQ t.wa.1,iQ t.wa.2.1,yG t.wa.2.2.1,yG t.wa.va.1,V.own 300002 0]),(300002,Cell.arr false false 0 5 t.wa.va.2)]⟩)))) (λx=>M.mZ jP) [fe XC] [] (by rintro _ _ (⟨_,_,_,_,_,_,_,_,_,_,_,_⟩|⟨_,_,_,_,_,_,_,_,_,_,_,_,_⟩) _ _<;>simp only[jH,M.mZ,nb]<;>rfl) (hE:=by intro _ _ s _;rcases s with s|s<;>kernel_rfl)
def M.IW(jP:zaq)(l:au)(i:Int)(k:Int×Int×aA×aA×au->Option R):=(idx l i).bind λc=>nC 1 c λa2k a2l a2m a2n auu=>((M.Kv jP (.inl (l,auu,(↑auu.length:Int),0,0,0,[],[],a2k,a2l,a2m,a2n))).bind λe=>rO e (λb=>k (b.2.2.2.2.2.2.2.2.1,b.2.2.2.2.2.2.2.2.2.1,b.2.2.2.2.2.2.2.2.2.2.1,b.2.2.2.2.2.2.2.2.2.2.2,[])) λd=>letE d λa=>k (a.2.2.2.2.2.2.2.2.1,a.2.2.2.2.2.2.2.2.2.1,a.2.2.2.2.2.2.2.2.2.2.1,a.2.2.2.2.2.2.2.2.2.2.2.1,a.2.2.2.2.2.2.2.2.2.2.2.2))
def M.kG:Nat->au->Int->Option zaM
 |0=>λ_ _=>none
 |n+1=>λl i=>M.IW (M.kG n) l i some
def M.qY l i:=lim λn=>M.kG n l i
def C.ai0{jP:zaq}(XC:S.qY.ok X0 λx=>jP x.1.1 x.1.2.1):S.qY.ok X0 λx=>M.IW jP x.1.1 x.1.2.1 some:=fnS (λx=>M.IW jP x.1.1 x.1.2.1) [] [F.Kv XC] (by intros;simp only[nC,M.IW,nb]<;>rfl)
def C.kG:∀n,S.qY.ok X0 λx=>M.kG n x.1.1 x.1.2.1
 |0=>dQ.zero
 |n+1=>C.ai0 (C.kG n)
def C.qY:S.qY.ok X0 λx=>M.qY x.1.1 x.1.2.1:=dQ.lim C.kG
def M.Z8{n:Nat}{l:au}{i:Int}{r:Int×Int×aA×aA×au}(h:M.kG n l i=some r):M.qY l i=some r:=dQ.zL C.kG (by intro a b h;simp[S.qY,rj,sg] at h;first|exact h|simp[Prod.ext_iff,h]) (x:=((l,i,()),())) h
abbrev M.NW(l:au)(k:Int×Int×aA×aA×au->Option R):=(M.qY l (i64.wrap ((↑l.length:Int) - 1))).bind λa=>k (a.1,a.2.1,a.2.2.1,a.2.2.2.1,a.2.2.2.2)
def M.wM l:=M.NW l some
def C.wM:=fTa S.wM (λx=>M.NW x.1.1) [fe C.qY]
def M.wW(iH:zar)(v7:au)(v8:Int)(s:Int×Int)(kn:Int×Int->Option R)(ke:Int×Int->Option R):Option R:=match s with
 |(most,v9)=>bif decide (v9<v8) then((idx v7 v9).bind λb=>nC 5 b λa2q a2r a2s a2t aDR=>((iH a2q a2r a2s a2t aDR).bind λa=>kn (bif decide (most<a) then a else most,i64.wrap (v9+1)))) else ke (most,v9)
def M.CG iH v7 v8 s:=M.wW iH v7 v8 s (λs=>some (Sum.inl s)) λt=>some (Sum.inr t)
def M.G7 iH v7 v8 s:=dU (M.CG iH v7 v8) s
def F.G7{iH:zar}(Qz:S.mO.ok X0 λx=>bJ iH x.1.1):LE X0 92:=le 3 (Gj [bH 3 pI,bH 7 (pL false 5),bH 8 pI,bH 9 pI] []) (λx=>(x.1.1,x.1.va.1)) (λx s=>((s.1,x.1.2.1,x.1.2.2.1,s.2,()),())) (λx=> .leaf (Int×Int) (λt=>(Ex.exit 0,⟨[(3,iQ t.1),(7,F9 5 x.1.2.1),(8,iQ x.1.2.2.1),(9,iQ t.2),(10,uX false)],[]⟩))) (λx=>M.wW iH x.1.2.1 x.1.2.2.1) [fe Qz] [] (by rintro _ _ ⟨_,_⟩ _ _<;>simp only[nC,M.wW,nb]<;>rfl)
def M.CJ(iH:zar)(t' gW:Int)(iG jA:aA)(iF:au)(k:Int->Option R):=(M.G7 iH iF ((↑iF.length:Int)) (0,0)).bind λa=>k (i64.wrap (a.1+1))
def M.kQ:Nat->Int->Int->aA->aA->au->Option (Int)
 |0=>λ_ _ _ _ _=>none
 |n+1=>λt' gW iG jA iF=>M.CJ (M.kQ n) t' gW iG jA iF some
def M.mO t' gW iG jA iF:=lim λn=>M.kQ n t' gW iG jA iF
def C.acw{iH:zar}(Qz:S.mO.ok X0 λx=>bJ iH x.1.1):S.mO.ok X0 λx=>bJ (M.CJ iH) x.1.1 some:=fnS (λx=>M.CJ iH x.1.1.1 x.1.1.2.1 x.1.1.2.2.1 x.1.1.va.1 x.1.1.va.2.1) [] [F.G7 Qz] (by intros;simp only[M.CJ,nb]<;>rfl)
def C.kQ:∀n,S.mO.ok X0 λx=>M.kQ n x.1.1.1 x.1.1.2.1 x.1.1.2.2.1 x.1.1.va.1 x.1.1.va.2.1
 |0=>dQ.zero
 |n+1=>C.acw (C.kQ n)
def C.mO:S.mO.ok X0 λx=>bJ M.mO x.1.1:=dQ.lim C.kQ
def M.acy{n:Nat}{t' gW:Int}{iG jA:aA}{iF:au}{r:Int}(h:M.kQ n t' gW iG jA iF=some r):M.mO t' gW iG jA iF=some r:=dQ.zL C.kQ (by intro a b h;simp[S.mO,rf,sg] at h;first|exact h|simp[Prod.ext_iff,h]) (x:=(((t',gW,iG,jA,iF,()),()),())) h
def M.E9(l v10:au)(v11 v12:Int)(v20:au)(v21 x' kR:Int)(mY rP:aA)(sD:au)(s:Int)(kn:Int->Option R)(ke:(Unit)⊕(Int)->Option R):Option R:=match s with
 |v22=>bif decide (v22<v21) then((idx v20 v22).bind λa=>(bM .i64 a 0).bind λc=>(idx l c).bind λd=>(bM .i64 d 0).bind λe=>(M.bF x' kR mY rP sD v22 e).bind λb=>bif !b then(ke (.inl ())) else kn (i64.wrap (v22+1))) else ke (.inr v22)
def M.SK l v10 v11 v12 v20 v21 x' kR mY rP sD s:=M.E9 l v10 v11 v12 v20 v21 x' kR mY rP sD s (λs=>some (Sum.inl s)) λt=>some (Sum.inr t)
def M.Kw l v10 v11 v12 v20 v21 x' kR mY rP sD s:=dU (M.SK l v10 v11 v12 v20 v21 x' kR mY rP sD) s
def F.Kw:LE X0 54:=le 9 (Gj [bH 0 (pL false 5),bH 4 (pP 300000 0),bH 10 (pL false 5),bH 11 pI,bH 12 pI,bH 20 (pL false 1),bH 21 pI,bH 22 pI] [bH 300000 (cB 34 zaX)]) (λx=>x.1.va.va.2.1) (λx s=>((x.1.1,(),x.1.2.2.1,x.1.va.1,x.1.va.2.1,x.1.va.2.2.1,x.1.va.va.1,s,()),((x.2.1.1,x.2.1.2.1,x.2.1.2.2.1,x.2.1.va.1,x.2.1.va.2.1,()),()))) (λx=> .sum (.leaf (Unit) (λt=>(Ex.ret,⟨[(2,uX false)],[]⟩))) (.leaf (Int) (λt=>(Ex.exit 2,⟨[(0,F9 5 x.1.1),(4,V.ptr 300000 0),(10,F9 5 x.1.2.2.1),(11,iQ x.1.va.1),(12,iQ x.1.va.2.1),(20,F9 1 x.1.va.2.2.1),(21,iQ x.1.va.va.1),(22,iQ t),(23,uX false)],[(300000,Cell.box 34 [iQ x.2.1.1,iQ x.2.1.2.1,yG x.2.1.2.2.1,yG x.2.1.va.1,F9 1 x.2.1.va.2.1])]⟩)))) (λx=>M.E9 x.1.1 x.1.2.2.1 x.1.va.1 x.1.va.2.1 x.1.va.2.2.1 x.1.va.va.1 x.2.1.1 x.2.1.2.1 x.2.1.2.2.1 x.2.1.va.1 x.2.1.va.2.1) [fe C.bF] [] (by rintro _ _ _ _ _<;>simp only[M.E9,nb]<;>rfl)
def M.Fa(l v10:au)(v11 s:Int)(kn:Int->Option R)(ke:(Unit)⊕(Int)->Option R):Option R:=match s with
 |v12=>bif decide (v12<v11) then((idx v10 v12).bind λd=>nC 1 d λn250 n251 aOG aOH ahm=>((M.iZ n250 n251 aOG aOH ahm).bind λc=>bif !c then(ke (.inl ())) else (M.Kw l v10 v11 v12 ahm ((↑ahm.length:Int)) n250 n251 aOG aOH ahm 0).bind λa=>rO a (λe=>ke (.inl ())) λb=>letE b λf=>kn (i64.wrap (v12+1)))) else ke (.inr v12)
def M.SL l v10 v11 s:=M.Fa l v10 v11 s (λs=>some (Sum.inl s)) λt=>some (Sum.inr t)
def M.Ky l v10 v11 s:=dU (M.SL l v10 v11) s
def F.Ky:LE X0 54:=le 4 (Gj [bH 0 (pL false 5),bH 10 (pL false 5),bH 11 pI,bH 12 pI] []) (λx=>x.1.va.1) (λx s=>((x.1.1,x.1.2.1,x.1.2.2.1,s,()),())) (λx=> .sum (.leaf (Unit) (λt=>(Ex.ret,⟨[(2,uX false)],[]⟩))) (.leaf (Int) (λt=>(Ex.exit 0,⟨[(0,F9 5 x.1.1),(10,F9 5 x.1.2.1),(11,iQ x.1.2.2.1),(12,iQ t),(13,uX false)],[]⟩)))) (λx=>M.Fa x.1.1 x.1.2.1 x.1.2.2.1) [fe C.iZ] [F.Kw] (by rintro _ _ _ _ _<;>simp only[nC,M.Fa,nb]<;>rfl)
abbrev M.TP(l:au)(k:Bool->Option R):=(M.BM l).bind λe=>cond (!e) (k false) ((M.Ky l l ((↑l.length:Int)) 0).bind λb=>rO b (λf=>k false) λd=>letE d λg=>(M.wM l).bind λa=>(M.mO a.1 a.2.1 a.2.2.1 a.2.2.2.1 (aG a.2.2.2.2)).bind λc=>k (decide (c<=40)))
def M.Gv l:=M.TP l some
def C.Gv:=fTa S.Gv (λx=>M.TP x.1.1) [fe C.BM,fe C.wM,fe C.mO] [F.Ky]
abbrev M.LJ(l:au)(k:Bool->Option R):=(M.Gv l).bind λc=>cond c ((idx l (i64.wrap ((↑l.length:Int) - 1))).bind λa=>(bM .i64 a 0).bind λb=>k (b==45)) (k false)
def M.zM l:=M.LJ l some
def C.zM:=fTa S.zM (λx=>M.LJ x.1.1) [fe C.Gv]
abbrev M.Z9(s':aA)(k:Int×Int×aA×au×Int->Option R):=k (1,0,s',[],0)
def M.aU s':=M.Z9 s' some
def C.aU:=fTa S.aU (λx=>M.Z9 x.1.1)
abbrev M.aac(k:Int×Int×aA×au×Int->Option R):=k (3,0,[],[],0)
def M.EP:Option zaw:=M.aac some
def C.EP:=fTa S.EP (λx=>M.aac)
abbrev M.acz(k:Int×Bool×Bool×Bool×Bool->Option R):=k (1,false,false,false,false)
def M.xZ:Option zaL:=M.acz some
def C.xZ:=fTa S.xZ (λx=>M.acz)
end
noncomputable section
variable {R:Type}
def M.pJ(s:zaA⊕zaB)(kn:zaA⊕zaB->Option R)(ke:zaA⊕zaB->Option R):Option R:=match s with
 | .inl (v16,v17,x',kR,mY,rP,sD,P7,Si,U9)=>bif decide (v17<v16) then(kn (.inr (v16,i64.wrap (v17+1),x',kR,mY,rP,sD,P7,Si,U9,[[D.int .i64 v17]]))) else(ke (.inl (v16,v17,x',kR,mY,rP,sD,P7,Si,U9)))
 | .inr (v16,v17,x',kR,mY,rP,sD,P7,Si,U9,x'8)=>bif decide (v17<v16) then(jH x'8 [[D.int .i64 v17]] 8 λa=>kn (.inr (v16,i64.wrap (v17+1),x',kR,mY,rP,sD,P7,Si,U9,a))) else ke (.inr (v16,v17,x',kR,mY,rP,sD,P7,Si,U9,x'8))
def M.uh s:=M.pJ s (λs=>some (Sum.inl s)) λt=>some (Sum.inr t)
def M.Jp s:=dU (M.uh) s
def F.Jp:LE X0 173:=le 3 (pOr (Gj [bH 2 (pP 300000 0),bH 3 (pP 300001 0),bH 16 pI,bH 17 pI] [bH 300000 (cB 34 [pI,pI,pS,pS,aco 1]),bH 300001 (cB 34 [pI,pI,pS,pS,aco 1])]) (Gj [bH 2 (pP 300000 0),bH 3 (pP 300001 0),bH 16 pI,bH 17 pI] [bH 300000 (cB 34 [pI,pI,pS,pS,aco 1]),bH 300001 (cB 34 zbk),bH 300002 zaZ])) (σ:=zaA⊕zaB) (λx=>(match x with| .inl x=> .inl ((x.1.2.2.1,x.1.va.1,x.2.1.1,x.2.1.2.1,x.2.1.2.2.1,x.2.1.va.1,x.2.2.1.1,x.2.2.1.2.1,x.2.2.1.2.2.1,x.2.2.1.va.1))| .inr x=> .inr ((x.1.2.2.1,x.1.va.1,x.2.1.1,x.2.1.2.1,x.2.1.2.2.1,x.2.1.va.1,x.2.2.1.1,x.2.2.1.2.1,x.2.2.1.2.2.1,x.2.2.1.va.1,x.va.1)))) (λx s=>(match s with| .inl s=> .inl ((((),(),s.1,s.2.1,()),((s.2.2.1,s.va.1,s.va.2.1,s.va.2.2.1,(),()),(s.va.va.1,s.va.va.2.1,s.wa.1,s.wa.2,(),()),())))| .inr s=> .inr ((((),(),s.1,s.2.1,()),((s.2.2.1,s.va.1,s.va.2.1,s.va.2.2.1,(),()),(s.va.va.1,s.va.va.2.1,s.wa.1,s.wa.2.1,(),()),s.wa.2.2,()))))) (λx=> .sum (.leaf zaA (λt=>(Ex.exit 0,⟨[(2,V.ptr 300000 0),(3,V.ptr 300001 0),(16,iQ t.1),(17,iQ t.2.1),(18,uX false)],[(300000,Cell.box 34 [iQ t.2.2.1,iQ t.va.1,yG t.va.2.1,yG t.va.2.2.1,V.nil 1]),(300001,Cell.box 34 [iQ t.va.va.1,iQ t.va.va.2.1,yG t.wa.1,yG t.wa.2,V.nil 1])]⟩))) (.leaf zaB (λt=>(Ex.exit 0,⟨[(2,V.ptr 300000 0),(3,V.ptr 300001 0),(16,iQ t.1),(17,iQ t.2.1),(18,uX false)],[(300000,Cell.box 34 [iQ t.2.2.1,iQ t.va.1,yG t.va.2.1,yG t.va.2.2.1,V.nil 1]),(300001,Cell.box 34 [iQ t.va.va.1,iQ t.va.va.2.1,yG t.wa.1,yG t.wa.2.1,V.own 300002 0]),(300002,Cell.arr false true 0 1 t.wa.2.2)]⟩)))) (λx=>M.pJ) [] [] (by rintro _ _ (⟨_,_,_,_,_,_,_,_,_,_⟩|⟨_,_,_,_,_,_,_,_,_,_,_⟩) _ _<;>simp only[jH,M.pJ,nb]<;>rfl) (hE:=by intro _ _ s _;rcases s with s|s<;>kernel_rfl)
abbrev M.LK(t' gW:Int)(iG jA:aA)(iF:au)(k:Int×Int×aA×aA×au->Option R):=(M.Jp (.inl ((↑iF.length:Int),0,0,0,[],[],t',gW,iG,jA))).bind λd=>rO d (λb=>k (b.2.2.2.2.2.2.1,b.2.2.2.2.2.2.2.1,b.2.2.2.2.2.2.2.2.1,b.2.2.2.2.2.2.2.2.2,[])) λc=>letE c λa=>cond (ay a.2.2.2.2.2.2.2.2.2.2) (k (a.2.2.2.2.2.2.1,a.2.2.2.2.2.2.2.1,a.2.2.2.2.2.2.2.2.1,a.2.2.2.2.2.2.2.2.2.1,a.2.2.2.2.2.2.2.2.2.2)) none
def M.kT t' gW iG jA iF:=M.LK t' gW iG jA iF some
def C.kT:=fTa S.kT (λx=>M.LK x.1.1.1 x.1.1.2.1 x.1.1.2.2.1 x.1.1.va.1 x.1.1.va.2.1) [] [F.Jp]
abbrev M.QA(n' gq:Int)(iO iM:aA)(jv:au)(k:Int->Option R):=cond (n'==15) (k 1) (cond (n'==14) (k 2) (cond (n'==13) (k 5) (cond (n'==12) ((M.ou gq).bind λa=>k a) (cond (n'==11) (k 11) (cond (n'==9) (k 13) (cond (n'==10) (k 13) (cond (n'==6) (k 14) (cond (n'==1) (k 15) (cond (n'==2) (k 15) (cond (n'==3) (k 15) (cond (n'==4) (k 15) (cond (n'==5) (k 15) (cond (n'==7) (k 15) (cond (n'==8) (k 15) (k 0)))))))))))))))
def M.oZ n' gq iO iM jv:=M.QA n' gq iO iM jv some
def C.oZ:=fTa S.oZ (λx=>M.QA x.1.1.1 x.1.1.2.1 x.1.1.2.2.1 x.1.1.va.1 x.1.1.va.2.1) [fe C.ou]
abbrev M.Vs(p:Int)(p1 p2 p3 p4:Bool)(k:Bool->Option R):=(M.bK p 1 15).bind λa=>cond a (cond (!p1) (k true) (k (p==14))) (k false)
def M.DY p p1 p2 p3 p4:=M.Vs p p1 p2 p3 p4 some
def C.DY:=fTa S.DY (λx=>M.Vs x.1.1.1 x.1.1.2.1 x.1.1.2.2.1 x.1.1.va.1 x.1.1.va.2.1) [fe C.bK]
abbrev M.CO(p4:Bool)(n':Int)(k:Bool->Option R)(p1:Bool)(agp p:Int):=cond p4 (cond (n'==11) (k false) (cond (n'==9) (k false) (cond (n'==4) (k false) (cond p1 (cond (n'==9) (k true) (k (decide (agp>=p)))) (k (decide (agp>=p))))))) (cond p1 (cond (n'==9) (k true) (k (decide (agp>=p)))) (k (decide (agp>=p))))
def M.Xk(n' gq:Int)(iO iM:aA)(jv:au)(p:Int)(p1 p2 p3 p4:Bool)(k:Bool->Option R):=(M.oZ n' gq iO iM jv).bind λa=>(M.DY p p1 p2 p3 p4).bind λb=>cond (!b) (k false) (cond (a==0) (k false) (cond p2 (cond (n'==13) (k false) (cond p3 (cond (n'==12) (cond (gq==62) (k false) (M.CO p4 n' k p1 a p)) (M.CO p4 n' k p1 a p)) (M.CO p4 n' k p1 a p))) (cond p3 (cond (n'==12) (cond (gq==62) (k false) (M.CO p4 n' k p1 a p)) (M.CO p4 n' k p1 a p)) (M.CO p4 n' k p1 a p))))
def M.IL n' gq iO iM jv p p1 p2 p3 p4:=M.Xk n' gq iO iM jv p p1 p2 p3 p4 some
def C.IL:S.IL.ok X0 λx=>bJ (bJ M.IL x.1.1) x.1.2.1:=fnS (λx=>M.Xk x.1.1.1 x.1.1.2.1 x.1.1.2.2.1 x.1.1.va.1 x.1.1.va.2.1 x.1.2.1.1 x.1.2.1.2.1 x.1.2.1.2.2.1 x.1.2.1.va.1 x.1.2.1.va.2.1) [fe C.oZ,fe C.DY] [] (by intros;unfold M.Xk M.CO;exact zbn)
abbrev M.aad(k:Int×Int×aA×au×Int->Option R):=k (2,0,[],[],0)
def M.ER:Option zaw:=M.aad some
def C.ER:=fTa S.ER (λx=>M.aad)
abbrev M.Vt(v0:Int)(k:Int×Bool×Bool×Bool×Bool->Option R):=M.xZ.bind λa=>k (a.1,a.2.1,a.2.2.1,a.2.2.2.1,a.2.2.2.2)
def M.J9 v0:=M.Vt v0 some
def C.J9:=fTa S.J9 (λx=>M.Vt x.1.1) [fe C.xZ]
abbrev M.acA(list:au)(k:Int×Int×aA×au×Int->Option R):=k (6,0,[],list,0)
def M.dY list:=M.acA list some
def C.dY:=fTa S.dY (λx=>M.acA x.1.1)
abbrev M.aae(d d1:Int)(d2:aA)(d3:au)(d4:Int)(k:Int×Int×aA×au×Int->Option R):=k (4,4,[],[[D.int .i64 d,D.int .i64 d1,D.str d2,D.sl false 5 d3,D.int .i64 d4]],0)
def M.zC d d1 d2 d3 d4:=M.aae d d1 d2 d3 d4 some
def C.zC:=fTa S.zC (λx=>M.aae x.1.1.1 x.1.1.2.1 x.1.1.2.2.1 x.1.1.va.1 x.1.1.va.2.1)
abbrev M.YS(d d1:Int)(d2:aA)(d3:au)(d4:Int)(k:Int×Int×aA×au×Int->Option R):=k (5,0,[],[[D.int .i64 d,D.int .i64 d1,D.str d2,D.sl false 5 d3,D.int .i64 d4]],0)
def M.zN d d1 d2 d3 d4:=M.YS d d1 d2 d3 d4 some
def C.zN:=fTa S.zN (λx=>M.YS x.1.1.1 x.1.1.2.1 x.1.1.2.2.1 x.1.1.va.1 x.1.1.va.2.1)
def M.CP(fB:zae)(v9:au)(v10 x' kR:Int)(mY:aA)(rP:Int)(s:Int×au)(kn:Int×au->Option R)(ke:Int×au->Option R):Option R:=match s with
 |(v11,sD)=>bif decide (v11<v10) then((idx v9 v11).bind λf=>nC 5 f λaOI aOJ aOK aOL auv=>(bif decide (v11>0) then((M.aU [44]).bind λe=>M.ER.bind λg=>jH sD [qQ e,qQ g] 64 λza=>(M.J9 v11).bind λb=>(fB aOI aOJ aOK aOL auv b.1 b.2.1 b.2.2.1 b.2.2.2.1 b.2.2.2.2).bind λd=>jH za [qQ d] 64 λh=>kn (i64.wrap (v11+1),h)) else (M.J9 v11).bind λa=>(fB aOI aOJ aOK aOL auv a.1 a.2.1 a.2.2.1 a.2.2.2.1 a.2.2.2.2).bind λc=>jH sD [qQ c] 64 λza=>kn (i64.wrap (v11+1),za))) else ke (v11,sD)
def M.QB fB v9 v10 x' kR mY rP s:=M.CP fB v9 v10 x' kR mY rP s (λs=>some (Sum.inl s)) λt=>some (Sum.inr t)
def M.Ov fB v9 v10 x' kR mY rP s:=dU (M.QB fB v9 v10 x' kR mY rP) s
def F.Ov{fB:zae}(Kz:S.je.ok X0 λx=>bJ (bJ fB x.1.1) x.1.2.1):LE X0 98:=le 3 (Gj [bH 1 (av6 99 [] []),bH 4 (pP 300000 0),bH 5 (pO 300001 0),bH 9 (pL false 5),bH 10 pI,bH 11 pI] [bH 300000 zbe,bH 300001 zbb]) (λx=>(x.1.va.2.2.1,x.2.2.1)) (λx s=>((((),()),(),(),x.1.va.1,x.1.va.2.1,s.1,()),((x.2.1.1,x.2.1.2.1,x.2.1.2.2.1,(),x.2.1.va.2.1,()),s.2,()))) (λx=> .leaf (Int×au) (λt=>(Ex.exit 0,⟨[(1,V.clo 99 [] []),(4,V.ptr 300000 0),(5,V.own 300001 0),(9,F9 5 x.1.va.1),(10,iQ x.1.va.2.1),(11,iQ t.1),(12,uX false)],[(300000,Cell.box 58 [iQ x.2.1.1,iQ x.2.1.2.1,yG x.2.1.2.2.1,V.nil 5,iQ x.2.1.va.2.1]),(300001,Cell.arr false false 0 5 t.2)]⟩))) (λx=>M.CP fB x.1.va.1 x.1.va.2.1 x.2.1.1 x.2.1.2.1 x.2.1.2.2.1 x.2.1.va.2.1) [fe C.aU,fe C.ER,fe C.J9,fe Kz] [] (by rintro _ _ ⟨_,_⟩ _ _<;>simp only[jH,qQ,nC,M.CP,nb]<;>rfl)
def M.Fb(fB:zae)(kids:au)(k:Int×Int×aA×au×Int->Option R):=(M.Ov fB kids ((↑kids.length:Int)) 0 0 [] 0 (0,[])).bind λc=>(M.dY c.2).bind λa=>(M.zC a.1 a.2.1 a.2.2.1 (aG a.2.2.2.1) a.2.2.2.2).bind λb=>(M.zN b.1 b.2.1 b.2.2.1 (aG b.2.2.2.1) b.2.2.2.2).bind λd=>k ((wH d))
def C.agq{fB:zae}(Kz:S.je.ok X0 λx=>bJ (bJ fB x.1.1) x.1.2.1):S.qI.ok X0 λx=>M.Fb fB x.1.1 some:=fnS (λx=>M.Fb fB x.1.1) [fe C.dY,fe C.zC,fe C.zN] [F.Ov Kz] (by intros;simp only[wH,M.Fb,nb]<;>rfl)
abbrev M.Ox(op' k':Int)(k:Int->Option R):=(M.ou op').bind λa=>cond (a==3) (cond (k'==0) (k 3) (k 4)) (cond (a==4) (cond (k'==0) (k 4) (k 5)) (cond (a==6) (cond (k'==0) (k 7) (k 7)) (cond (a==7) (cond (k'==0) (k 8) (k 8)) (cond (a==8) (cond (k'==0) (k 8) (k 9)) (cond (a==9) (cond (k'==0) (k 9) (k 10)) (cond (a==10) (cond (k'==0) (k 10) (k 11)) (cond (k'==0) (k 13) (k 11))))))))
def M.y5 op' k':=M.Ox op' k' some
def C.y5:=fTa S.y5 (λx=>M.Ox x.1.1 x.1.2.1) [fe C.ou]
abbrev M.Oy(n' gq:Int)(iO iM:aA)(jv:au)(k':Int)(k:Int->Option R):=cond (n'==15) (cond (decide (k'>0)) (k 1) (k 14)) (cond (n'==14) (cond (decide (k'>0)) (k 2) (k 3)) (cond (n'==13) (k 5) (cond (n'==11) (k 11) (cond (n'==12) ((M.y5 gq k').bind λa=>k a) (k 14)))))
def M.y7 n' gq iO iM jv k':=M.Oy n' gq iO iM jv k' some
def C.y7:=fTa S.y7 (λx=>M.Oy x.1.1.1 x.1.1.2.1 x.1.1.2.2.1 x.1.1.va.1 x.1.1.va.2.1 x.1.2.1) [fe C.y5]
abbrev M.QC(n' gq:Int)(iO iM:aA)(jv:au)(k':Int)(k:Int×Bool×Bool×Bool×Bool->Option R)(p2 p3 p4:Bool):=(M.y7 n' gq iO iM jv k').bind λa=>cond (n'==11) (k (a,n'==6,p2,p3,false)) (cond (n'==9) (k (a,n'==6,p2,p3,false)) (cond (n'==10) (k (a,n'==6,p2,p3,false)) (cond (n'==6) (k (a,n'==6,p2,p3,false)) (cond (k'==0) (cond p4 (k (a,n'==6,p2,p3,true)) (cond (k'==1) (cond (n'==12) (k (a,n'==6,p2,p3,gq==99)) (k (a,n'==6,p2,p3,false))) (k (a,n'==6,p2,p3,false)))) (cond (k'==1) (cond (n'==12) (k (a,n'==6,p2,p3,gq==99)) (k (a,n'==6,p2,p3,false))) (k (a,n'==6,p2,p3,false)))))))
def M.TQ(n' gq:Int)(iO iM:aA)(jv:au)(k' p:Int)(p1 p2 p3 p4:Bool)(k:Int×Bool×Bool×Bool×Bool->Option R):=(M.DY p p1 p2 p3 p4).bind λe=>cond (!e) (k (0,false,false,false,false)) ((M.bK k' 0 (i64.wrap ((↑jv.length:Int) - 1))).bind λc=>cond (!c) (k (0,false,false,false,false)) ((M.oZ n' gq iO iM jv).bind λd=>cond (d==0) (k (0,false,false,false,false)) ((M.oZ n' gq iO iM jv).bind λf=>cond (f==15) (M.xZ.bind λb=>k (b.1,b.2.1,b.2.2.1,b.2.2.2.1,b.2.2.2.2)) (cond (n'==13) (cond (decide ((↑jv.length:Int)>1)) (M.xZ.bind λa=>k (a.1,a.2.1,a.2.2.1,a.2.2.2.1,a.2.2.2.2)) (M.QC n' gq iO iM jv k' k p2 p3 p4)) (M.QC n' gq iO iM jv k' k p2 p3 p4)))))
def M.y8 n' gq iO iM jv k' p p1 p2 p3 p4:=M.TQ n' gq iO iM jv k' p p1 p2 p3 p4 some
def C.y8:S.y8.ok X0 λx=>bJ (bJ M.y8 x.1.1 x.1.2.1) x.1.2.2.1:=fnS (λx=>M.TQ x.1.1.1 x.1.1.2.1 x.1.1.2.2.1 x.1.1.va.1 x.1.1.va.2.1 x.1.2.1 x.1.2.2.1.1 x.1.2.2.1.2.1 x.1.2.2.1.2.2.1 x.1.2.2.1.va.1 x.1.2.2.1.va.2.1) [fe C.DY,fe C.bK,fe C.oZ,fe C.xZ,fe C.y7] [] (by intros;unfold M.TQ M.QC;exact zbn)
abbrev M.Oz(n' gq:Int)(iO iM:aA)(jv:au)(k':Int)(k:Bool->Option R):=cond (k'==0) (cond (n'==9) (k true) (cond (n'==10) (k true) (k (n'==15)))) (k false)
def M.rW n' gq iO iM jv k':=M.Oz n' gq iO iM jv k' some
def C.rW:=fTa S.rW (λx=>M.Oz x.1.1.1 x.1.1.2.1 x.1.1.2.2.1 x.1.1.va.1 x.1.1.va.2.1 x.1.2.1)
def M.IX(lJ:zae)(fB:zae)(t' gW:Int)(iG jA:aA)(iF:au)(k' p:Int)(p1 p2 p3 p4:Bool)(k:Int×Int×aA×au×Int->Option R):=(M.kT t' gW iG jA iF).bind λb=>(M.y8 b.1 b.2.1 b.2.2.1 b.2.2.2.1 b.2.2.2.2 k' p p1 p2 p3 p4).bind λa=>(M.rW b.1 b.2.1 b.2.2.1 b.2.2.2.1 b.2.2.2.2 k').bind λg=>cond g ((idx iF k').bind λe=>nC 5 e λa2X a2Y a2Z a3a aDT=>((lJ a2X a2Y a2Z a3a aDT a.1 a.2.1 a.2.2.1 a.2.2.2.1 a.2.2.2.2).bind λf=>k ((wH f)))) ((idx iF k').bind λc=>nC 5 c λa3c a3d a3e a3f aDU=>((fB a3c a3d a3e a3f aDU a.1 a.2.1 a.2.2.1 a.2.2.2.1 a.2.2.2.2).bind λd=>k ((wH d))))
def C.ai2{lJ:zae}{fB:zae}(Wj:S.BN.ok X0 λx=>bJ (bJ lJ x.1.1) x.1.2.1)(Kz:S.je.ok X0 λx=>bJ (bJ fB x.1.1) x.1.2.1):S.Gw.ok X0 λx=>bJ (bJ (M.IX lJ fB) x.1.1 x.1.2.1) x.1.2.2.1 some:=fnS (λx=>M.IX lJ fB x.1.1.1 x.1.1.2.1 x.1.1.2.2.1 x.1.1.va.1 x.1.1.va.2.1 x.1.2.1 x.1.2.2.1.1 x.1.2.2.1.2.1 x.1.2.2.1.2.2.1 x.1.2.2.1.va.1 x.1.2.2.1.va.2.1) [fe C.kT,fe C.y8,fe C.rW,fe Wj,fe Kz] [] (by intros;simp only[M.IX,wH,nC];exact zbn)
abbrev M.G8(tokens c c1:au)(c2:Bool)(k:au×au×Bool->Option R):=cond (((c.length+tokens.length) * 32).ble 140737488355328) (cond ((c.length+tokens.length).ble 140737488355328) (cond (ay (c++tokens)) (cond (ay c1) (k (c++tokens,c1,c2)) none) none) none) none
def M.bT tokens c c1 c2:=M.G8 tokens c c1 c2 some
def C.bT:=fTa S.bT (λx=>M.G8 x.1.2.1 x.2.1.1 x.2.1.2.1 x.2.1.2.2.1)
abbrev M.Xl(kind:Int)(k:Int×aA×Int->Option R):=(M.jI kind).bind λa=>k (kind,a,0)
def M.lG kind:=M.Xl kind some
def C.lG:=fTa S.lG (λx=>M.Xl x.1.1) [fe C.jI]
def M.o7(aT:zai)(shut v18 x' kR:Int)(mY rP:aA)(sD:au)(P7:Int)(Si U9 x'8 x'9:Bool)(s:Int×Bool×au×au)(kn:Int×Bool×au×au->Option R)(ke:Int×Bool×au×au->Option R):Option R:=match s with
 |(v19,v,ayx,ayy)=>bif decide (v19<v18) then(bif decide (v19>0) then((M.lG 36).bind λb=>bif ay ayx then(bif ay ayy then((M.bT ([[D.int .i64 b.1,D.str b.2.1,D.int .i64 b.2.2]]) ayx ayy v).bind λa=>bif ay a.1 then(bif ay a.2.1 then((aT x' kR mY rP sD v19 P7 Si U9 x'8 x'9 a.1 a.2.1 a.2.2).bind λd=>kn (i64.wrap (v19+1),d.2.2,d.1,d.2.1)) else none) else none) else none) else none) else bif ay ayx then(bif ay ayy then((aT x' kR mY rP sD v19 P7 Si U9 x'8 x'9 ayx ayy v).bind λc=>kn (i64.wrap (v19+1),c.2.2,c.1,c.2.1)) else none) else none) else ke (v19,v,ayx,ayy)
def M.o8 aT shut v18 x' kR mY rP sD P7 Si U9 x'8 x'9 s:=M.o7 aT shut v18 x' kR mY rP sD P7 Si U9 x'8 x'9 s (λs=>some (Sum.inl s)) λt=>some (Sum.inr t)
def M.lS aT shut v18 x' kR mY rP sD P7 Si U9 x'8 x'9 s:=dU (M.o8 aT shut v18 x' kR mY rP sD P7 Si U9 x'8 x'9) s
def F.lS{aT:zai}(zX:S.kH.ok X0 λx=>bJ (bJ aT x.1.2.1 x.1.2.2.1) x.1.va.1 x.2.1.1 x.2.1.2.1 x.2.1.2.2.1):LE X0 254:=le 3 (Gj [bH 0 (pP 100000 0),bH 3 pI,bH 6 (pP 300000 0),bH 9 (pP 300001 0),bH 18 pI,bH 19 pI] [bH 100000 (cB 206 [pO 300002 0,pO 300003 0,pB]),bH 300000 (cB 55 zaY),bH 300001 (cB 124 zba),bH 300002 zbl,bH 300003 (cA false true 0 2)]) (λx=>(x.1.va.2.2.1,x.2.1.2.2.1,x.va.2.1,x.va.2.2.1)) (λx s=>(((),x.1.2.1,(),(),x.1.va.2.1,s.1,()),(((),(),s.2.1,()),(x.2.2.1.1,x.2.2.1.2.1,x.2.2.1.2.2.1,x.2.2.1.va.1,x.2.2.1.va.2.1,()),(x.va.1.1,x.va.1.2.1,x.va.1.2.2.1,x.va.1.va.1,x.va.1.va.2.1,()),s.2.2.1,s.va,()))) (λx=> .leaf (Int×Bool×au×au) (λt=>(Ex.exit 0,⟨[(0,V.ptr 100000 0),(3,iQ x.1.2.1),(6,V.ptr 300000 0),(9,V.ptr 300001 0),(18,iQ x.1.va.2.1),(19,iQ t.1),(20,uX false)],[(100000,Cell.box 206 [V.own 300002 0,V.own 300003 0,uX t.2.1]),(300000,Cell.box 55 [iQ x.2.2.1.1,iQ x.2.2.1.2.1,yG x.2.2.1.2.2.1,yG x.2.2.1.va.1,F9 5 x.2.2.1.va.2.1]),(300001,Cell.box 124 [iQ x.va.1.1,uX x.va.1.2.1,uX x.va.1.2.2.1,uX x.va.1.va.1,uX x.va.1.va.2.1]),(300002,Cell.arr false true 0 3 t.2.2.1),(300003,Cell.arr false true 0 2 t.va)]⟩))) (λx=>M.o7 aT x.1.2.1 x.1.va.2.1 x.2.2.1.1 x.2.2.1.2.1 x.2.2.1.2.2.1 x.2.2.1.va.1 x.2.2.1.va.2.1 x.va.1.1 x.va.1.2.1 x.va.1.2.2.1 x.va.1.va.1 x.va.1.va.2.1) [fe C.lG,fe C.bT,fe zX] [] (by rintro _ _ ⟨_,_,_,_⟩ _ _<;>unfold M.o7<;>exact zbn)
def M.uj(aT:zai)(t' gW:Int)(iG jA:aA)(iF:au)(open' shut p:Int)(p1 p2 p3 p4:Bool)(c c1:au)(c2:Bool)(k:au×au×Bool->Option R):=(M.lG open').bind λf=>cond (ay c) (cond (ay c1) ((M.bT ([[D.int .i64 f.1,D.str f.2.1,D.int .i64 f.2.2]]) c c1 c2).bind λd=>(M.lS aT shut ((↑iF.length:Int)) t' gW iG jA iF p p1 p2 p3 p4 (0,d.2.2,d.1,d.2.1)).bind λb=>(M.lG shut).bind λe=>cond (ay b.2.2.1) (cond (ay b.2.2.2) ((M.bT ([[D.int .i64 e.1,D.str e.2.1,D.int .i64 e.2.2]]) b.2.2.1 b.2.2.2 b.2.1).bind λa=>cond (ay a.1) (cond (ay a.2.1) (k (a.1,a.2.1,a.2.2)) none) none) none) none) none) none
def C.aaf{aT:zai}(zX:S.kH.ok X0 λx=>bJ (bJ aT x.1.2.1 x.1.2.2.1) x.1.va.1 x.2.1.1 x.2.1.2.1 x.2.1.2.2.1):S.pY.ok X0 λx=>bJ (bJ (M.uj aT) x.1.2.1 x.1.2.2.1 x.1.va.1) x.1.va.2.1 x.2.1.1 x.2.1.2.1 x.2.1.2.2.1 some:=fnS (λx=>M.uj aT x.1.2.1.1 x.1.2.1.2.1 x.1.2.1.2.2.1 x.1.2.1.va.1 x.1.2.1.va.2.1 x.1.2.2.1 x.1.va.1 x.1.va.2.1.1 x.1.va.2.1.2.1 x.1.va.2.1.2.2.1 x.1.va.2.1.va.1 x.1.va.2.1.va.2.1 x.2.1.1 x.2.1.2.1 x.2.1.2.2.1) [fe C.lG,fe C.bT] [F.lS zX] (by intros;unfold M.uj;exact zbn)
abbrev M.dZ(atc:au×au×Bool)(iG:aA)(k:au×au×Bool->Option R):=(M.lG 24).bind λb=>cond (ay atc.1) (cond (ay atc.2.1) ((M.bT ([[D.int .i64 b.1,D.str b.2.1,D.int .i64 b.2.2],[D.int .i64 6,D.str iG,D.int .i64 0]]) atc.1 atc.2.1 atc.2.2).bind λa=>cond (ay a.1) (cond (ay a.2.1) (k (a.1,a.2.1,a.2.2)) none) none) none) none
abbrev M.dR(c c1:au)(ayD:Int×aA×Int)(c2:Bool)(aT:zai)(t' gW:Int)(iG jA:aA)(iF:au)(p:Int)(p1 p2 p3 p4:Bool)(k:au×au×Bool->Option R):=cond (ay c) (cond (ay c1) ((M.bT ([[D.int .i64 ayD.1,D.str ayD.2.1,D.int .i64 ayD.2.2]]) c c1 c2).bind λa=>cond (ay a.1) (cond (ay a.2.1) ((aT t' gW iG jA iF 0 p p1 p2 p3 p4 a.1 a.2.1 a.2.2).bind λb=>cond (ay b.1) (cond (ay b.2.1) (k (b.1,b.2.1,b.2.2)) none) none) none) none) none) none
def M.dP(aT:zai)(ig:zal)(t' gW:Int)(iG jA:aA)(iF:au)(p:Int)(p1 p2 p3 p4:Bool)(c c1:au)(c2:Bool)(k:au×au×Bool->Option R):=cond (t'==9) ((M.lG gW).bind λw=>M.dR c c1 w c2 aT t' gW iG jA iF p p1 p2 p3 p4 k) (cond (t'==11) ((M.lG gW).bind λt=>M.dR c c1 t c2 aT t' gW iG jA iF p p1 p2 p3 p4 k) (cond (t'==6) ((M.lG 68).bind λs=>M.dR c c1 s c2 aT t' gW iG jA iF p p1 p2 p3 p4 k) (cond (t'==10) (cond (ay c) (cond (ay c1) ((aT t' gW iG jA iF 0 p p1 p2 p3 p4 c c1 c2).bind λh=>(M.lG gW).bind λn=>cond (ay h.1) (cond (ay h.2.1) ((M.bT ([[D.int .i64 n.1,D.str n.2.1,D.int .i64 n.2.2]]) h.1 h.2.1 h.2.2).bind λe=>cond (ay e.1) (cond (ay e.2.1) (k (e.1,e.2.1,e.2.2)) none) none) none) none) none) none) (cond (t'==13) (cond (decide ((↑iF.length:Int)>1)) (cond (ay c) (cond (ay c1) ((ig t' gW iG jA iF 32 33 p p1 p2 p3 p4 c c1 c2).bind λv=>M.dZ v iG k) none) none) (cond (ay c) (cond (ay c1) ((aT t' gW iG jA iF 0 p p1 p2 p3 p4 c c1 c2).bind λu=>M.dZ u iG k) none) none)) (cond (t'==14) (cond (ay c) (cond (ay c1) ((aT t' gW iG jA iF 0 p p1 p2 p3 p4 c c1 c2).bind λm=>(M.lG 65).bind λr=>cond (ay m.1) (cond (ay m.2.1) ((M.bT ([[D.int .i64 r.1,D.str r.2.1,D.int .i64 r.2.2]]) m.1 m.2.1 m.2.2).bind λg=>cond (ay g.1) (cond (ay g.2.1) ((aT t' gW iG jA iF 1 p p1 p2 p3 p4 g.1 g.2.1 g.2.2).bind λd=>(M.lG 66).bind λo=>cond (ay d.1) (cond (ay d.2.1) ((M.bT ([[D.int .i64 o.1,D.str o.2.1,D.int .i64 o.2.2]]) d.1 d.2.1 d.2.2).bind λi=>cond (ay i.1) (cond (ay i.2.1) ((aT t' gW iG jA iF 2 p p1 p2 p3 p4 i.1 i.2.1 i.2.2).bind λj=>cond (ay j.1) (cond (ay j.2.1) (k (j.1,j.2.1,j.2.2)) none) none) none) none) none) none) none) none) none) none) none) none) (cond (ay c) (cond (ay c1) ((aT t' gW iG jA iF 0 p p1 p2 p3 p4 c c1 c2).bind λa=>cond (gW !=99) ((M.lG gW).bind λq=>cond (ay a.1) (cond (ay a.2.1) ((M.bT ([[D.int .i64 q.1,D.str q.2.1,D.int .i64 q.2.2]]) a.1 a.2.1 a.2.2).bind λf=>cond (ay f.1) (cond (ay f.2.1) ((aT t' gW iG jA iF 1 p p1 p2 p3 p4 f.1 f.2.1 f.2.2).bind λb=>cond (ay b.1) (cond (ay b.2.1) (k (b.1,b.2.1,b.2.2)) none) none) none) none) none) none) (cond (ay a.1) (cond (ay a.2.1) ((aT t' gW iG jA iF 1 p p1 p2 p3 p4 a.1 a.2.1 a.2.2).bind λl=>cond (ay l.1) (cond (ay l.2.1) (k (l.1,l.2.1,l.2.2)) none) none) none) none)) none) none))))))
def C.XD{aT:zai}{ig:zal}(zX:S.kH.ok X0 λx=>bJ (bJ aT x.1.2.1 x.1.2.2.1) x.1.va.1 x.2.1.1 x.2.1.2.1 x.2.1.2.2.1)(Nz:S.pY.ok X0 λx=>bJ (bJ ig x.1.2.1 x.1.2.2.1 x.1.va.1) x.1.va.2.1 x.2.1.1 x.2.1.2.1 x.2.1.2.2.1):S.nZ.ok X0 λx=>bJ (bJ (M.dP aT ig) x.1.2.1) x.1.2.2.1 x.2.1.1 x.2.1.2.1 x.2.1.2.2.1 some:=fnS (λx=>M.dP aT ig x.1.2.1.1 x.1.2.1.2.1 x.1.2.1.2.2.1 x.1.2.1.va.1 x.1.2.1.va.2.1 x.1.2.2.1.1 x.1.2.2.1.2.1 x.1.2.2.1.2.2.1 x.1.2.2.1.va.1 x.1.2.2.1.va.2.1 x.2.1.1 x.2.1.2.1 x.2.1.2.2.1) [fe C.lG,fe C.bT,fe zX,fe Nz] [] (by intros;unfold M.dP M.dR M.dZ;exact zbn)
abbrev M.eU(aeC:au×au×Bool)(c:au)(k:au×au×Bool->Option R):=cond (((aeC.2.1.length+[[D.int .i64 (↑c.length:Int),D.int .i64 (↑aeC.1.length:Int)]].length) * 16).ble 140737488355328) (cond ((aeC.2.1.length+[[D.int .i64 (↑c.length:Int),D.int .i64 (↑aeC.1.length:Int)]].length).ble 140737488355328) (cond (ay aeC.1) (cond (ay (aeC.2.1++[[D.int .i64 (↑c.length:Int),D.int .i64 (↑aeC.1.length:Int)]])) (k (aeC.1,aeC.2.1++[[D.int .i64 (↑c.length:Int),D.int .i64 (↑aeC.1.length:Int)]],aeC.2.2)) none) none) none) none
def M.iV(ig:zal)(pq:zag)(t' gW:Int)(iG jA:aA)(iF:au)(p:Int)(p1 p2 p3 p4:Bool)(c c1:au)(c2:Bool)(k:au×au×Bool->Option R):=cond (t'==1) (cond (ay c) (cond (ay c1) ((M.bT ([[D.int .i64 6,D.str iG,D.int .i64 0]]) c c1 c2).bind λe=>M.eU e c k) none) none) (cond (t'==2) (cond (ay c) (cond (ay c1) ((M.bT ([[D.int .i64 3,D.str iG,D.int .i64 0]]) c c1 c2).bind λf=>M.eU f c k) none) none) (cond (t'==3) (cond (ay c) (cond (ay c1) ((M.bT ([[D.int .i64 4,D.str iG,D.int .i64 0]]) c c1 c2).bind λi=>M.eU i c k) none) none) (cond (t'==4) (cond (ay c) (cond (ay c1) ((M.bT ([[D.int .i64 5,D.str iG,D.int .i64 0]]) c c1 c2).bind λh=>M.eU h c k) none) none) (cond (t'==5) (cond (ay c) (cond (ay c1) ((M.bT ([[D.int .i64 6,D.str iG,D.int .i64 0]]) c c1 c2).bind λa=>cond (ay a.1) (cond (ay a.2.1) ((ig t' gW iG jA iF 34 35 p p1 p2 p3 p4 a.1 a.2.1 a.2.2).bind λl=>M.eU l c k) none) none) none) none) (cond (t'==7) (cond (ay c) (cond (ay c1) ((M.bT ([[D.int .i64 7,D.str iG,D.int .i64 0]]) c c1 c2).bind λb=>cond (ay b.1) (cond (ay b.2.1) ((ig t' gW iG jA iF 32 33 p p1 p2 p3 p4 b.1 b.2.1 b.2.2).bind λg=>M.eU g c k) none) none) none) none) (cond (t'==8) (cond (ay c) (cond (ay c1) ((M.bT ([[D.int .i64 8,D.str iG,D.int .i64 0]]) c c1 c2).bind λd=>cond (ay d.1) (cond (ay d.2.1) ((ig t' gW iG jA iF 32 33 p p1 p2 p3 p4 d.1 d.2.1 d.2.2).bind λm=>M.eU m c k) none) none) none) none) (cond (ay c) (cond (ay c1) ((pq t' gW iG jA iF p p1 p2 p3 p4 c c1 c2).bind λj=>M.eU j c k) none) none)))))))
def C.aag{ig:zal}{pq:zag}(Nz:S.pY.ok X0 λx=>bJ (bJ ig x.1.2.1 x.1.2.2.1 x.1.va.1) x.1.va.2.1 x.2.1.1 x.2.1.2.1 x.2.1.2.2.1)(Yb:S.nZ.ok X0 λx=>bJ (bJ pq x.1.2.1) x.1.2.2.1 x.2.1.1 x.2.1.2.1 x.2.1.2.2.1):S.qg.ok X0 λx=>bJ (bJ (M.iV ig pq) x.1.2.1) x.1.2.2.1 x.2.1.1 x.2.1.2.1 x.2.1.2.2.1 some:=fnS (λx=>M.iV ig pq x.1.2.1.1 x.1.2.1.2.1 x.1.2.1.2.2.1 x.1.2.1.va.1 x.1.2.1.va.2.1 x.1.2.2.1.1 x.1.2.2.1.2.1 x.1.2.2.1.2.2.1 x.1.2.2.1.va.1 x.1.2.2.1.va.2.1 x.2.1.1 x.2.1.2.1 x.2.1.2.2.1) [fe C.bT,fe Nz,fe Yb] [] (by intros;unfold M.iV M.eU;exact zbn)
abbrev M.wX(c c1:au)(c2:Bool)(dW:zag)(t' gW:Int)(iG jA:aA)(iF:au)(k:au×au×Bool->Option R):=(M.lG 32).bind λf=>cond (ay c) (cond (ay c1) ((M.bT ([[D.int .i64 f.1,D.str f.2.1,D.int .i64 f.2.2]]) c c1 c2).bind λe=>M.xZ.bind λb=>cond (ay e.1) (cond (ay e.2.1) ((dW t' gW iG jA iF b.1 b.2.1 b.2.2.1 b.2.2.2.1 b.2.2.2.2 e.1 e.2.1 e.2.2).bind λd=>(M.lG 33).bind λg=>cond (ay d.1) (cond (ay d.2.1) ((M.bT ([[D.int .i64 g.1,D.str g.2.1,D.int .i64 g.2.2]]) d.1 d.2.1 d.2.2).bind λa=>cond (ay a.1) (cond (ay a.2.1) (k (a.1,a.2.1,a.2.2)) none) none) none) none) none) none) none) none
def M.um(dW:zag)(t' gW:Int)(iG jA:aA)(iF:au)(p:Int)(p1 p2 p3 p4:Bool)(c c1:au)(c2:Bool)(k:au×au×Bool->Option R):=(M.kT t' gW iG jA iF).bind λa=>(M.IL a.1 a.2.1 a.2.2.1 a.2.2.2.1 a.2.2.2.2 p p1 p2 p3 p4).bind λe=>cond c2 ((M.oZ a.1 a.2.1 a.2.2.1 a.2.2.2.1 a.2.2.2.2).bind λf=>cond (f !=15) (M.wX c c1 c2 dW t' gW iG jA iF k) (cond (!a.1==4) (cond (ay c) (cond (ay c1) ((dW t' gW iG jA iF p p1 p2 p3 p4 c c1 c2).bind λb=>cond (ay b.1) (cond (ay b.2.1) (k (b.1,b.2.1,b.2.2)) none) none) none) none) (M.wX c c1 c2 dW t' gW iG jA iF k))) (cond (!!e) (cond (ay c) (cond (ay c1) ((dW t' gW iG jA iF p p1 p2 p3 p4 c c1 c2).bind λd=>cond (ay d.1) (cond (ay d.2.1) (k (d.1,d.2.1,d.2.2)) none) none) none) none) (M.wX c c1 c2 dW t' gW iG jA iF k))
def C.aah{dW:zag}(NC:S.qg.ok X0 λx=>bJ (bJ dW x.1.2.1) x.1.2.2.1 x.2.1.1 x.2.1.2.1 x.2.1.2.2.1):S.sK.ok X0 λx=>bJ (bJ (M.um dW) x.1.2.1) x.1.2.2.1 x.2.1.1 x.2.1.2.1 x.2.1.2.2.1 some:=fnS (λx=>M.um dW x.1.2.1.1 x.1.2.1.2.1 x.1.2.1.2.2.1 x.1.2.1.va.1 x.1.2.1.va.2.1 x.1.2.2.1.1 x.1.2.2.1.2.1 x.1.2.2.1.2.2.1 x.1.2.2.1.va.1 x.1.2.2.1.va.2.1 x.2.1.1 x.2.1.2.1 x.2.1.2.2.1) [fe C.kT,fe C.IL,fe C.oZ,fe C.lG,fe C.bT,fe C.xZ,fe NC] [] (by intros;unfold M.um M.wX;exact zbn)
def M.uY(dW:zag)(uK:zag)(t' gW:Int)(iG jA:aA)(iF:au)(k' p:Int)(p1 p2 p3 p4:Bool)(c c1:au)(c2:Bool)(k:au×au×Bool->Option R):=(M.kT t' gW iG jA iF).bind λa=>(idx iF k').bind λg=>nC 5 g λaOM aON aOO aOP auw=>((M.y8 a.1 a.2.1 a.2.2.1 a.2.2.2.1 a.2.2.2.2 k' p p1 p2 p3 p4).bind λb=>(M.rW a.1 a.2.1 a.2.2.1 a.2.2.2.1 a.2.2.2.2 k').bind λf=>cond f (cond (ay c) (cond (ay c1) ((dW aOM aON aOO aOP auw b.1 b.2.1 b.2.2.1 b.2.2.2.1 b.2.2.2.2 c c1 c2).bind λd=>cond (ay d.1) (cond (ay d.2.1) (k (d.1,d.2.1,d.2.2)) none) none) none) none) (cond (ay c) (cond (ay c1) ((uK aOM aON aOO aOP auw b.1 b.2.1 b.2.2.1 b.2.2.2.1 b.2.2.2.2 c c1 c2).bind λe=>cond (ay e.1) (cond (ay e.2.1) (k (e.1,e.2.1,e.2.2)) none) none) none) none))
def C.abb{dW:zag}{uK:zag}(NC:S.qg.ok X0 λx=>bJ (bJ dW x.1.2.1) x.1.2.2.1 x.2.1.1 x.2.1.2.1 x.2.1.2.2.1)(abd:S.sK.ok X0 λx=>bJ (bJ uK x.1.2.1) x.1.2.2.1 x.2.1.1 x.2.1.2.1 x.2.1.2.2.1):S.kH.ok X0 λx=>bJ (bJ (M.uY dW uK) x.1.2.1 x.1.2.2.1) x.1.va.1 x.2.1.1 x.2.1.2.1 x.2.1.2.2.1 some:=fnS (λx=>M.uY dW uK x.1.2.1.1 x.1.2.1.2.1 x.1.2.1.2.2.1 x.1.2.1.va.1 x.1.2.1.va.2.1 x.1.2.2.1 x.1.va.1.1 x.1.va.1.2.1 x.1.va.1.2.2.1 x.1.va.1.va.1 x.1.va.1.va.2.1 x.2.1.1 x.2.1.2.1 x.2.1.2.2.1) [fe C.kT,fe C.y8,fe C.rW,fe NC,fe abd] [] (by intros;simp only[M.uY,nC];exact zbn)
def M.jo:Nat->(zai)×(zal)×(zag)×(zag)×(zag):=Nat.rec (λ_ _ _ _ _ _ _ _ _ _ _ _ _ _=>none,λ_ _ _ _ _ _ _ _ _ _ _ _ _ _ _=>none,λ_ _ _ _ _ _ _ _ _ _ _ _ _=>none,λ_ _ _ _ _ _ _ _ _ _ _ _ _=>none,λ_ _ _ _ _ _ _ _ _ _ _ _ _=>none) λ_ qz=>(λt' gW iG jA iF k' p p1 p2 p3 p4 c c1 c2=>M.uY qz.2.2.2.1 qz.2.2.2.2 t' gW iG jA iF k' p p1 p2 p3 p4 c c1 c2 some,λt' gW iG jA iF open' shut p p1 p2 p3 p4 c c1 c2=>M.uj qz.1 t' gW iG jA iF open' shut p p1 p2 p3 p4 c c1 c2 some,λt' gW iG jA iF p p1 p2 p3 p4 c c1 c2=>M.dP qz.1 qz.2.1 t' gW iG jA iF p p1 p2 p3 p4 c c1 c2 some,λt' gW iG jA iF p p1 p2 p3 p4 c c1 c2=>M.iV qz.2.1 qz.2.2.1 t' gW iG jA iF p p1 p2 p3 p4 c c1 c2 some,λt' gW iG jA iF p p1 p2 p3 p4 c c1 c2=>M.um qz.2.2.2.1 t' gW iG jA iF p p1 p2 p3 p4 c c1 c2 some)
def M.lX n:=(M.jo n).1
def M.uo n:=(M.jo n).2.1
def M.ru n:=(M.jo n).2.2.1
def M.uq n:=(M.jo n).2.2.2.1
def M.yh n:=(M.jo n).2.2.2.2
def M.acB(n:Nat):M.lX (n+1)=λt' gW iG jA iF k' p p1 p2 p3 p4 c c1 c2=>M.uY (M.uq n) (M.yh n) t' gW iG jA iF k' p p1 p2 p3 p4 c c1 c2 some:=rfl
def M.abe(n:Nat):M.uo (n+1)=λt' gW iG jA iF open' shut p p1 p2 p3 p4 c c1 c2=>M.uj (M.lX n) t' gW iG jA iF open' shut p p1 p2 p3 p4 c c1 c2 some:=rfl
def M.Yc(n:Nat):M.ru (n+1)=λt' gW iG jA iF p p1 p2 p3 p4 c c1 c2=>M.dP (M.lX n) (M.uo n) t' gW iG jA iF p p1 p2 p3 p4 c c1 c2 some:=rfl
def M.abf(n:Nat):M.uq (n+1)=λt' gW iG jA iF p p1 p2 p3 p4 c c1 c2=>M.iV (M.uo n) (M.ru n) t' gW iG jA iF p p1 p2 p3 p4 c c1 c2 some:=rfl
def M.abg(n:Nat):M.yh (n+1)=λt' gW iG jA iF p p1 p2 p3 p4 c c1 c2=>M.um (M.uq n) t' gW iG jA iF p p1 p2 p3 p4 c c1 c2 some:=rfl
def M.kH t' gW iG jA iF k' p p1 p2 p3 p4 c c1 c2:=lim λn=>M.lX n t' gW iG jA iF k' p p1 p2 p3 p4 c c1 c2
def M.pY t' gW iG jA iF open' shut p p1 p2 p3 p4 c c1 c2:=lim λn=>M.uo n t' gW iG jA iF open' shut p p1 p2 p3 p4 c c1 c2
def M.nZ t' gW iG jA iF p p1 p2 p3 p4 c c1 c2:=lim λn=>M.ru n t' gW iG jA iF p p1 p2 p3 p4 c c1 c2
def M.qg t' gW iG jA iF p p1 p2 p3 p4 c c1 c2:=lim λn=>M.uq n t' gW iG jA iF p p1 p2 p3 p4 c c1 c2
def M.sK t' gW iG jA iF p p1 p2 p3 p4 c c1 c2:=lim λn=>M.yh n t' gW iG jA iF p p1 p2 p3 p4 c c1 c2
def C.jo:∀n,(S.kH.ok X0 λx=>bJ (bJ (M.lX n) x.1.2.1 x.1.2.2.1) x.1.va.1 x.2.1.1 x.2.1.2.1 x.2.1.2.2.1)/\(S.pY.ok X0 λx=>bJ (bJ (M.uo n) x.1.2.1 x.1.2.2.1 x.1.va.1) x.1.va.2.1 x.2.1.1 x.2.1.2.1 x.2.1.2.2.1)/\(S.nZ.ok X0 λx=>bJ (bJ (M.ru n) x.1.2.1) x.1.2.2.1 x.2.1.1 x.2.1.2.1 x.2.1.2.2.1)/\(S.qg.ok X0 λx=>bJ (bJ (M.uq n) x.1.2.1) x.1.2.2.1 x.2.1.1 x.2.1.2.1 x.2.1.2.2.1)/\(S.sK.ok X0 λx=>bJ (bJ (M.yh n) x.1.2.1) x.1.2.2.1 x.2.1.1 x.2.1.2.1 x.2.1.2.2.1)
 |0=>⟨dQ.zero,dQ.zero,dQ.zero,dQ.zero,dQ.zero⟩
 |n+1=>have h:=C.jo n;⟨C.abb h.2.2.2.1 h.2.2.2.2,C.aaf h.1,C.XD h.1 h.2.1,C.aag h.2.1 h.2.2.1,C.aah h.2.2.2.1⟩
def C.kH:S.kH.ok X0 λx=>bJ (bJ M.kH x.1.2.1 x.1.2.2.1) x.1.va.1 x.2.1.1 x.2.1.2.1 x.2.1.2.2.1:=dQ.lim λn=>(C.jo n).1
def M.abh{n:Nat}{t' gW:Int}{iG jA:aA}{iF:au}{k' p:Int}{p1 p2 p3 p4:Bool}{c c1:au}{c2:Bool}{r:au×au×Bool}(h:M.lX n t' gW iG jA iF k' p p1 p2 p3 p4 c c1 c2=some r):M.kH t' gW iG jA iF k' p p1 p2 p3 p4 c c1 c2=some r:=dQ.zL (λn=>(C.jo n).1) (by intro a b h;simp[S.kH,sg] at h;first|exact h|simp[Prod.ext_iff,h]) (x:=(((),(t',gW,iG,jA,iF,()),k',(p,p1,p2,p3,p4,()),()),((c,c1,c2,()),()))) h
def C.pY:S.pY.ok X0 λx=>bJ (bJ M.pY x.1.2.1 x.1.2.2.1 x.1.va.1) x.1.va.2.1 x.2.1.1 x.2.1.2.1 x.2.1.2.2.1:=dQ.lim λn=>(C.jo n).2.1
def C.nZ:S.nZ.ok X0 λx=>bJ (bJ M.nZ x.1.2.1) x.1.2.2.1 x.2.1.1 x.2.1.2.1 x.2.1.2.2.1:=dQ.lim λn=>(C.jo n).2.2.1
def C.qg:S.qg.ok X0 λx=>bJ (bJ M.qg x.1.2.1) x.1.2.2.1 x.2.1.1 x.2.1.2.1 x.2.1.2.2.1:=dQ.lim λn=>(C.jo n).2.2.2.1
def C.sK:S.sK.ok X0 λx=>bJ (bJ M.sK x.1.2.1) x.1.2.2.1 x.2.1.1 x.2.1.2.1 x.2.1.2.2.1:=dQ.lim λn=>(C.jo n).2.2.2.2
abbrev M.oC(s' adu:aA)(k:Bool->Option R):=cond (decide ((↑s'.length:Int)>=(↑adu.length:Int))) ((cut s' 0 (↑adu.length:Int)).bind λa=>k (a==adu)) (k false)
def M.jk s' adu:=M.oC s' adu some
def C.jk:=fTa S.jk (λx=>M.oC x.1.1 x.1.2.1)
abbrev M.Ez(s' adu:aA)(k:Bool->Option R):=(M.jk s' adu).bind λa=>k a
def M.strings_HasPrefix s' adu:=M.Ez s' adu some
def C.strings_HasPrefix:=fTa S.strings_HasPrefix (λx=>M.Ez x.1.1 x.1.2.1) [fe C.jk]
def M.QD(s':aA)(at':Int)(v16 ay1 v162 ay2 v164 ay3 ay4 v167 v168 ay5 apI apJ apK apL apM apN apO apP apQ apR apS apT apU apV apW apX apY apZ ap0 ap1 ap2 ap3 ap4 ap5 ap6 ap7 ap8 ap9 aqa:aA)(s:Int×Int×Int)(kn:Int×Int×Int->Option R)(ke:Int×Int×Int->Option R):Option R:=match s with
 |(kind,most,v17)=>bif decide (v17<39) then(bif decide (0<=v17) && decide (v17<39) then((cStr [D.str v16,D.str ay1,D.str v162,D.str ay2,D.str v164,D.str ay3,D.str ay4,D.str v167,D.str v168,D.str ay5,D.str apI,D.str apJ,D.str apK,D.str apL,D.str apM,D.str apN,D.str apO,D.str apP,D.str apQ,D.str apR,D.str apS,D.str apT,D.str apU,D.str apV,D.str apW,D.str apX,D.str apY,D.str apZ,D.str ap0,D.str ap1,D.str ap2,D.str ap3,D.str ap4,D.str ap5,D.str ap6,D.str ap7,D.str ap8,D.str ap9,D.str aqa] v17.toNat).bind λa=>bif decide ((↑a.length:Int)>most) then((cut s' at' (↑s'.length:Int)).bind λb=>(M.strings_HasPrefix b a).bind λc=>bif c then(kn (i64.wrap (30+v17),(↑a.length:Int),i64.wrap (v17+1))) else kn (kind,most,i64.wrap (v17+1))) else kn (kind,most,i64.wrap (v17+1))) else none) else ke (kind,most,v17)
def M.aai s' at' v16 ay1 v162 ay2 v164 ay3 ay4 v167 v168 ay5 apI apJ apK apL apM apN apO apP apQ apR apS apT apU apV apW apX apY apZ ap0 ap1 ap2 ap3 ap4 ap5 ap6 ap7 ap8 ap9 aqa s:=M.QD s' at' v16 ay1 v162 ay2 v164 ay3 ay4 v167 v168 ay5 apI apJ apK apL apM apN apO apP apQ apR apS apT apU apV apW apX apY apZ ap0 ap1 ap2 ap3 ap4 ap5 ap6 ap7 ap8 ap9 aqa s (λs=>some (Sum.inl s)) λt=>some (Sum.inr t)
def M.Vu s' at' v16 ay1 v162 ay2 v164 ay3 ay4 v167 v168 ay5 apI apJ apK apL apM apN apO apP apQ apR apS apT apU apV apW apX apY apZ ap0 ap1 ap2 ap3 ap4 ap5 ap6 ap7 ap8 ap9 aqa s:=dU (M.aai s' at' v16 ay1 v162 ay2 v164 ay3 ay4 v167 v168 ay5 apI apJ apK apL apM apN apO apP apQ apR apS apT apU apV apW apX apY apZ ap0 ap1 ap2 ap3 ap4 ap5 ap6 ap7 ap8 ap9 aqa) s
def F.Vu:LE X0 251:=le 5 (Gj [bH 0 pS,bH 1 pI,bH 6 pI,bH 7 pI,bH 16 (iY [pS,pS,pS,pS,pS,pS,pS,pS,pS,pS,pS,pS,pS,pS,pS,pS,pS,pS,pS,pS,pS,pS,pS,pS,pS,pS,pS,pS,pS,pS,pS,pS,pS,pS,pS,pS,pS,pS,pS]),bH 17 pI] []) (λx=>(x.1.2.2.1,x.1.va.1,x.1.va.2.2.1)) (λx s=>((x.1.1,x.1.2.1,s.1,s.2.1,(x.1.va.2.1.1,x.1.va.2.1.2.1,x.1.va.2.1.2.2.1,x.1.va.2.1.va.1,x.1.va.2.1.va.2.1,x.1.va.2.1.va.2.2.1,x.1.va.2.1.va.va.1,x.1.va.2.1.va.va.2.1,x.1.va.2.1.wa.1,x.1.va.2.1.wa.2.1,x.1.va.2.1.wa.2.2.1,x.1.va.2.1.wa.va.1,x.1.va.2.1.wa.va.2.1,x.1.va.2.1.wa.va.2.2.1,x.1.va.2.1.wa.va.va.1,x.1.va.2.1.wa.va.va.2.1,x.1.va.2.1.wa.wa.1,x.1.va.2.1.wa.wa.2.1,x.1.va.2.1.wa.wa.2.2.1,x.1.va.2.1.wa.wa.va.1,x.1.va.2.1.wa.wa.va.2.1,x.1.va.2.1.wa.wa.va.2.2.1,x.1.va.2.1.wa.wa.va.va.1,x.1.va.2.1.wa.wa.va.va.2.1,x.1.va.2.1.wa.wa.wa.1,x.1.va.2.1.wa.wa.wa.2.1,x.1.va.2.1.wa.wa.wa.2.2.1,x.1.va.2.1.wa.wa.wa.va.1,x.1.va.2.1.wa.wa.wa.va.2.1,x.1.va.2.1.wa.wa.wa.va.2.2.1,x.1.va.2.1.wa.wa.wa.va.va.1,x.1.va.2.1.wa.wa.wa.va.va.2.1,x.1.va.2.1.wa.wa.wa.wa.1,x.1.va.2.1.wa.wa.wa.wa.2.1,x.1.va.2.1.wa.wa.wa.wa.2.2.1,x.1.va.2.1.wa.wa.wa.wa.va.1,x.1.va.2.1.wa.wa.wa.wa.va.2.1,x.1.va.2.1.wa.wa.wa.wa.va.2.2.1,x.1.va.2.1.wa.wa.wa.wa.va.va.1,()),s.2.2,()),())) (λx=> .leaf (Int×Int×Int) (λt=>(Ex.exit 0,⟨[(0,yG x.1.1),(1,iQ x.1.2.1),(6,iQ t.1),(7,iQ t.2.1),(16,V.agg [yG x.1.va.2.1.1,yG x.1.va.2.1.2.1,yG x.1.va.2.1.2.2.1,yG x.1.va.2.1.va.1,yG x.1.va.2.1.va.2.1,yG x.1.va.2.1.va.2.2.1,yG x.1.va.2.1.va.va.1,yG x.1.va.2.1.va.va.2.1,yG x.1.va.2.1.wa.1,yG x.1.va.2.1.wa.2.1,yG x.1.va.2.1.wa.2.2.1,yG x.1.va.2.1.wa.va.1,yG x.1.va.2.1.wa.va.2.1,yG x.1.va.2.1.wa.va.2.2.1,yG x.1.va.2.1.wa.va.va.1,yG x.1.va.2.1.wa.va.va.2.1,yG x.1.va.2.1.wa.wa.1,yG x.1.va.2.1.wa.wa.2.1,yG x.1.va.2.1.wa.wa.2.2.1,yG x.1.va.2.1.wa.wa.va.1,yG x.1.va.2.1.wa.wa.va.2.1,yG x.1.va.2.1.wa.wa.va.2.2.1,yG x.1.va.2.1.wa.wa.va.va.1,yG x.1.va.2.1.wa.wa.va.va.2.1,yG x.1.va.2.1.wa.wa.wa.1,yG x.1.va.2.1.wa.wa.wa.2.1,yG x.1.va.2.1.wa.wa.wa.2.2.1,yG x.1.va.2.1.wa.wa.wa.va.1,yG x.1.va.2.1.wa.wa.wa.va.2.1,yG x.1.va.2.1.wa.wa.wa.va.2.2.1,yG x.1.va.2.1.wa.wa.wa.va.va.1,yG x.1.va.2.1.wa.wa.wa.va.va.2.1,yG x.1.va.2.1.wa.wa.wa.wa.1,yG x.1.va.2.1.wa.wa.wa.wa.2.1,yG x.1.va.2.1.wa.wa.wa.wa.2.2.1,yG x.1.va.2.1.wa.wa.wa.wa.va.1,yG x.1.va.2.1.wa.wa.wa.wa.va.2.1,yG x.1.va.2.1.wa.wa.wa.wa.va.2.2.1,yG x.1.va.2.1.wa.wa.wa.wa.va.va.1]),(17,iQ t.2.2),(18,uX false)],[]⟩))) (λx=>M.QD x.1.1 x.1.2.1 x.1.va.2.1.1 x.1.va.2.1.2.1 x.1.va.2.1.2.2.1 x.1.va.2.1.va.1 x.1.va.2.1.va.2.1 x.1.va.2.1.va.2.2.1 x.1.va.2.1.va.va.1 x.1.va.2.1.va.va.2.1 x.1.va.2.1.wa.1 x.1.va.2.1.wa.2.1 x.1.va.2.1.wa.2.2.1 x.1.va.2.1.wa.va.1 x.1.va.2.1.wa.va.2.1 x.1.va.2.1.wa.va.2.2.1 x.1.va.2.1.wa.va.va.1 x.1.va.2.1.wa.va.va.2.1 x.1.va.2.1.wa.wa.1 x.1.va.2.1.wa.wa.2.1 x.1.va.2.1.wa.wa.2.2.1 x.1.va.2.1.wa.wa.va.1 x.1.va.2.1.wa.wa.va.2.1 x.1.va.2.1.wa.wa.va.2.2.1 x.1.va.2.1.wa.wa.va.va.1 x.1.va.2.1.wa.wa.va.va.2.1 x.1.va.2.1.wa.wa.wa.1 x.1.va.2.1.wa.wa.wa.2.1 x.1.va.2.1.wa.wa.wa.2.2.1 x.1.va.2.1.wa.wa.wa.va.1 x.1.va.2.1.wa.wa.wa.va.2.1 x.1.va.2.1.wa.wa.wa.va.2.2.1 x.1.va.2.1.wa.wa.wa.va.va.1 x.1.va.2.1.wa.wa.wa.va.va.2.1 x.1.va.2.1.wa.wa.wa.wa.1 x.1.va.2.1.wa.wa.wa.wa.2.1 x.1.va.2.1.wa.wa.wa.wa.2.2.1 x.1.va.2.1.wa.wa.wa.wa.va.1 x.1.va.2.1.wa.wa.wa.wa.va.2.1 x.1.va.2.1.wa.wa.wa.wa.va.2.2.1 x.1.va.2.1.wa.wa.wa.wa.va.va.1) [fe C.strings_HasPrefix] [] (by rintro _ _ ⟨_,_,_⟩ _ _<;>simp only[M.QD,nb]<;>rfl)
abbrev M.Xm(s':aA)(at':Int)(k:Int×Int->Option R):=(M.bK at' 0 (i64.wrap ((↑s'.length:Int) - 1))).bind λb=>cond (!b) (k (0,0)) ((M.Vu s' at' [123] [125] [40] [41] [91] [93] [44] [59] [43,61] [45,61] [42,61] [47,61] [37,61] [94,61] [124,124] [38,38] [33,126] [61,61] [60,61] [62,61] [33,61] [43,43] [45,45] [62,62] [61] [43] [45] [42] [47] [37] [94] [33] [62] [60] [124] [63] [58] [126] [36] (0,0,0)).bind λa=>k (a.1,a.2.1))
def M.Lh s' at':=M.Xm s' at' some
def C.Lh:=fTa S.Lh (λx=>M.Xm x.1.1 x.1.2.1) [fe C.bK] [F.Vu]
abbrev M.zD(a b:Int)(k:Bool->Option R)(a1 b1:aA):=cond (a==6) (cond (b==32) (k true) ((M.nV a).bind λe=>cond (!e) (k false) (cond ((a1.length+b1.length).ble 9223372036854775807) ((M.Lh (a1++b1) 0).bind λc=>k (decide (c.2>(↑a1.length:Int)))) none))) ((M.nV a).bind λf=>cond (!f) (k false) (cond ((a1.length+b1.length).ble 9223372036854775807) ((M.Lh (a1++b1) 0).bind λd=>k (decide (d.2>(↑a1.length:Int)))) none))
def M.OA(a:Int)(a1:aA)(a2 b:Int)(b1:aA)(b2:Int)(k:Bool->Option R):=cond (a1==[]) (k false) (cond (b1==[]) (k false) (cond (a==2) (k false) (cond (a==1) (k false) (cond (b==1) (k false) ((idx a1 (i64.wrap ((↑a1.length:Int) - 1))).bind λh=>(idx b1 0).bind λc=>(M.lF (i64.wrap (↑h.toNat:Int))).bind λf=>cond f ((M.lF (i64.wrap (↑c.toNat:Int))).bind λg=>cond g (k true) (cond (a==3) ((M.lF (i64.wrap (↑c.toNat:Int))).bind λe=>cond e (k true) (cond (i64.wrap (↑c.toNat:Int)==46) (k true) (M.zD a b k a1 b1))) (M.zD a b k a1 b1))) (cond (a==3) ((M.lF (i64.wrap (↑c.toNat:Int))).bind λd=>cond d (k true) (cond (i64.wrap (↑c.toNat:Int)==46) (k true) (M.zD a b k a1 b1))) (M.zD a b k a1 b1)))))))
def M.vP a a1 a2 b b1 b2:=M.OA a a1 a2 b b1 b2 some
def C.vP:S.vP.ok X0 λx=>M.vP x.1.1.1 x.1.1.2.1 x.1.1.2.2.1 x.1.2.1.1 x.1.2.1.2.1 x.1.2.1.2.2.1:=fnS (λx=>M.OA x.1.1.1 x.1.1.2.1 x.1.1.2.2.1 x.1.2.1.1 x.1.2.1.2.1 x.1.2.1.2.2.1) [fe C.lF,fe C.nV,fe C.Lh] [] (by intros;unfold M.OA M.zD;exact zbn)
abbrev M.LM(fH:zaj)(t' gW:Int)(iG jA:aA)(iF:au)(p:Int)(p1 p2 p3 p4:Bool)(atd:Int×Int×aA×au×Int)(k:Int×Int×aA×au×Int->Option R):=(fH t' gW iG jA iF 0 p p1 p2 p3 p4).bind λa=>(M.dY ([[D.int .i64 atd.1,D.int .i64 atd.2.1,D.str atd.2.2.1,D.sl false 5 (aG atd.2.2.2.1),D.int .i64 atd.2.2.2.2],[D.int .i64 a.1,D.int .i64 a.2.1,D.str a.2.2.1,D.sl false 5 (aG a.2.2.2.1),D.int .i64 a.2.2.2.2]])).bind λb=>k (b.1,b.2.1,b.2.2.1,aG b.2.2.2.1,b.2.2.2.2)
def M.Bf(fH:zaj)(t' gW:Int)(iG jA:aA)(iF:au)(p:Int)(p1 p2 p3 p4:Bool)(k:Int×Int×aA×au×Int->Option R):=(M.kH t' gW iG jA iF 0 p p1 p2 p3 p4 [] [] false).bind λd=>(M.jI gW).bind λc=>(M.lG gW).bind λb=>(idx d.1 0).bind λl=>d.1[0]?.bind λa=>(bM .i64 a 0).bind λh=>(cStr a 1).bind λi=>(bM .i64 a 2).bind λg=>(M.vP b.1 b.2.1 b.2.2 h i g).bind λe=>cond e (cond ((c.length+1).ble 9223372036854775807) ((M.aU (c++[32])).bind λj=>M.LM fH t' gW iG jA iF p p1 p2 p3 p4 j k) none) ((M.aU c).bind λf=>M.LM fH t' gW iG jA iF p p1 p2 p3 p4 f k)
def C.aeD{fH:zaj}(XE:S.Gw.ok X0 λx=>bJ (bJ fH x.1.1 x.1.2.1) x.1.2.2.1):S.DZ.ok X0 λx=>bJ (bJ (M.Bf fH) x.1.1) x.1.2.1 some:=fnS (λx=>M.Bf fH x.1.1.1 x.1.1.2.1 x.1.1.2.2.1 x.1.1.va.1 x.1.1.va.2.1 x.1.2.1.1 x.1.2.1.2.1 x.1.2.1.2.2.1 x.1.2.1.va.1 x.1.2.1.va.2.1) [fe C.kH,fe C.jI,fe C.lG,fe C.vP,fe C.aU,fe XE,fe C.dY] [] (by intros;unfold M.Bf M.LM;exact zbn)
abbrev M.eu(atf atg:Int×Int×aA×au×Int)(k:Int×Int×aA×au×Int->Option R):=(M.dY ([[D.int .i64 atf.1,D.int .i64 atf.2.1,D.str atf.2.2.1,D.sl false 5 (aG atf.2.2.2.1),D.int .i64 atf.2.2.2.2],[D.int .i64 atg.1,D.int .i64 atg.2.1,D.str atg.2.2.1,D.sl false 5 (aG atg.2.2.2.1),D.int .i64 atg.2.2.2.2]])).bind λa=>k (a.1,a.2.1,a.2.2.1,aG a.2.2.2.1,a.2.2.2.2)
abbrev M.eF(gW:Int)(acC acD:Int×Int×aA×au×Int)(k:Int×Int×aA×au×Int->Option R):=(M.jI gW).bind λf=>cond ((1+f.length).ble 9223372036854775807) ((M.aU ([32]++f)).bind λd=>M.ER.bind λe=>(M.dY ([[D.int .i64 acC.1,D.int .i64 acC.2.1,D.str acC.2.2.1,D.sl false 5 (aG acC.2.2.2.1),D.int .i64 acC.2.2.2.2],[D.int .i64 d.1,D.int .i64 d.2.1,D.str d.2.2.1,D.sl false 5 (aG d.2.2.2.1),D.int .i64 d.2.2.2.2],[D.int .i64 e.1,D.int .i64 e.2.1,D.str e.2.2.1,D.sl false 5 (aG e.2.2.2.1),D.int .i64 e.2.2.2.2],[D.int .i64 acD.1,D.int .i64 acD.2.1,D.str acD.2.2.1,D.sl false 5 (aG acD.2.2.2.1),D.int .i64 acD.2.2.2.2]])).bind λb=>(M.zC b.1 b.2.1 b.2.2.1 (aG b.2.2.2.1) b.2.2.2.2).bind λa=>(M.zN a.1 a.2.1 a.2.2.1 (aG a.2.2.2.1) a.2.2.2.2).bind λc=>k (c.1,c.2.1,c.2.2.1,aG c.2.2.2.1,c.2.2.2.2)) none
abbrev M.dI(ath ati atj:Int×Int×aA×au×Int)(k:Int×Int×aA×au×Int->Option R):=(M.dY ([[D.int .i64 ath.1,D.int .i64 ath.2.1,D.str ath.2.2.1,D.sl false 5 (aG ath.2.2.2.1),D.int .i64 ath.2.2.2.2],[D.int .i64 ati.1,D.int .i64 ati.2.1,D.str ati.2.2.1,D.sl false 5 (aG ati.2.2.2.1),D.int .i64 ati.2.2.2.2],[D.int .i64 atj.1,D.int .i64 atj.2.1,D.str atj.2.2.1,D.sl false 5 (aG atj.2.2.2.1),D.int .i64 atj.2.2.2.2]])).bind λa=>k (a.1,a.2.1,a.2.2.1,aG a.2.2.2.1,a.2.2.2.2)
def M.fG(rC:zas)(fH:zaj)(CQ:zae)(t' gW:Int)(iG jA:aA)(iF:au)(p:Int)(p1 p2 p3 p4:Bool)(k:Int×Int×aA×au×Int->Option R):=cond (t'==1) ((M.aU iG).bind λL=>k ((wH L))) (cond (t'==2) ((M.aU iG).bind λK=>k ((wH K))) (cond (t'==3) ((M.aU iG).bind λQ=>k ((wH Q))) (cond (t'==4) ((M.aU iG).bind λj=>k ((wH j))) (cond (t'==5) (cond ((iG.length+1).ble 9223372036854775807) ((M.aU (iG++[91])).bind λB=>(rC iF).bind λo=>(M.aU [93]).bind λP=>M.dI B o P k) none) (cond (t'==7) (cond ((iG.length+1).ble 9223372036854775807) ((M.aU (iG++[40])).bind λz=>(rC iF).bind λq=>(M.aU [41]).bind λg=>M.dI z q g k) none) (cond (t'==8) (cond ((iG.length+1).ble 9223372036854775807) ((M.aU (iG++[40])).bind λi=>(rC iF).bind λE=>(M.aU [41]).bind λU=>M.dI i E U k) none) (cond (t'==9) ((M.jI gW).bind λn=>(M.aU n).bind λJ=>(fH t' gW iG jA iF 0 p p1 p2 p3 p4).bind λs=>M.eu J s k) (cond (t'==10) ((fH t' gW iG jA iF 0 p p1 p2 p3 p4).bind λG=>(M.jI gW).bind λr=>(M.aU r).bind λH=>M.eu G H k) (cond (t'==6) ((M.aU [36]).bind λy=>(fH t' gW iG jA iF 0 p p1 p2 p3 p4).bind λV=>M.eu y V k) (cond (t'==11) ((CQ t' gW iG jA iF p p1 p2 p3 p4).bind λW=>k ((wH W))) (cond (t'==14) ((fH t' gW iG jA iF 0 p p1 p2 p3 p4).bind λF=>(M.aU [32,63,32]).bind λx=>(fH t' gW iG jA iF 1 p p1 p2 p3 p4).bind λl=>(M.aU [32,58,32]).bind λN=>(fH t' gW iG jA iF 2 p p1 p2 p3 p4).bind λA=>(M.dY ([qQ F,qQ x,qQ l,qQ N,qQ A])).bind λD=>k ((wH D))) (cond (t'==13) (cond (decide ((↑iF.length:Int)>1)) ((M.aU [40]).bind λT=>(rC iF).bind λu=>cond ((5+iG.length).ble 9223372036854775807) ((M.aU ([41,32,105,110,32]++iG)).bind λh=>M.dI T u h k) none) ((fH t' gW iG jA iF 0 p p1 p2 p3 p4).bind λI=>cond ((4+iG.length).ble 9223372036854775807) ((M.aU ([32,105,110,32]++iG)).bind λt=>M.eu I t k) none)) ((fH t' gW iG jA iF 0 p p1 p2 p3 p4).bind λa=>(fH t' gW iG jA iF 1 p p1 p2 p3 p4).bind λb=>cond (t'==12) (cond (gW==99) ((M.aU [32]).bind λv=>M.dI a v b k) (cond (t'==12) (cond (gW==45) (M.eF gW a b k) (cond (gW==44) (M.eF gW a b k) ((M.jI gW).bind λd=>cond ((1+d.length).ble 9223372036854775807) (cond ((([32]++d).length+1).ble 9223372036854775807) ((M.aU ([32]++d++[32])).bind λC=>M.dI a C b k) none) none))) ((M.jI gW).bind λf=>cond ((1+f.length).ble 9223372036854775807) (cond ((([32]++f).length+1).ble 9223372036854775807) ((M.aU ([32]++f++[32])).bind λO=>M.dI a O b k) none) none))) (cond (t'==12) (cond (gW==45) (M.eF gW a b k) (cond (gW==44) (M.eF gW a b k) ((M.jI gW).bind λe=>cond ((1+e.length).ble 9223372036854775807) (cond ((([32]++e).length+1).ble 9223372036854775807) ((M.aU ([32]++e++[32])).bind λw=>M.dI a w b k) none) none))) ((M.jI gW).bind λc=>cond ((1+c.length).ble 9223372036854775807) (cond ((([32]++c).length+1).ble 9223372036854775807) ((M.aU ([32]++c++[32])).bind λm=>M.dI a m b k) none) none)))))))))))))))
def C.agr{rC:zas}{fH:zaj}{CQ:zae}(ai4:S.qI.ok X0 λx=>rC x.1.1)(XE:S.Gw.ok X0 λx=>bJ (bJ fH x.1.1 x.1.2.1) x.1.2.2.1)(ags:S.DZ.ok X0 λx=>bJ (bJ CQ x.1.1) x.1.2.1):S.BN.ok X0 λx=>bJ (bJ (M.fG rC fH CQ) x.1.1) x.1.2.1 some:=fnS (λx=>M.fG rC fH CQ x.1.1.1 x.1.1.2.1 x.1.1.2.2.1 x.1.1.va.1 x.1.1.va.2.1 x.1.2.1.1 x.1.2.1.2.1 x.1.2.1.2.2.1 x.1.2.1.va.1 x.1.2.1.va.2.1) [fe C.aU,fe ai4,fe C.dY,fe C.jI,fe XE,fe ags,fe C.ER,fe C.zC,fe C.zN] [] (by intros;unfold M.fG M.dI M.eF M.eu;exact zbn)
def M.Fe(lJ:zae)(t' gW:Int)(iG jA:aA)(iF:au)(p:Int)(p1 p2 p3 p4:Bool)(k:Int×Int×aA×au×Int->Option R):=(M.kT t' gW iG jA iF).bind λb=>(M.IL b.1 b.2.1 b.2.2.1 b.2.2.2.1 b.2.2.2.2 p p1 p2 p3 p4).bind λd=>cond d ((lJ t' gW iG jA iF p p1 p2 p3 p4).bind λg=>k ((wH g))) ((M.aU [40]).bind λe=>M.xZ.bind λa=>(lJ t' gW iG jA iF a.1 a.2.1 a.2.2.1 a.2.2.2.1 a.2.2.2.2).bind λc=>(M.aU [41]).bind λh=>(M.dY ([qQ e,qQ c,qQ h])).bind λf=>k ((wH f)))
def C.agt{lJ:zae}(Wj:S.BN.ok X0 λx=>bJ (bJ lJ x.1.1) x.1.2.1):S.je.ok X0 λx=>bJ (bJ (M.Fe lJ) x.1.1) x.1.2.1 some:=fnS (λx=>M.Fe lJ x.1.1.1 x.1.1.2.1 x.1.1.2.2.1 x.1.1.va.1 x.1.1.va.2.1 x.1.2.1.1 x.1.2.1.2.1 x.1.2.1.2.2.1 x.1.2.1.va.1 x.1.2.1.va.2.1) [fe C.kT,fe C.IL,fe Wj,fe C.aU,fe C.xZ,fe C.dY] [] (by intros;simp only[M.Fe,qQ,wH];exact zbn)
def M.lT:Nat->(zae)×(zas)×(zaj)×(zae)×(zae):=Nat.rec (λ_ _ _ _ _ _ _ _ _ _=>none,λ_=>none,λ_ _ _ _ _ _ _ _ _ _ _=>none,λ_ _ _ _ _ _ _ _ _ _=>none,λ_ _ _ _ _ _ _ _ _ _=>none) λ_ qz=>(λt' gW iG jA iF p p1 p2 p3 p4=>M.Fe qz.2.2.2.2 t' gW iG jA iF p p1 p2 p3 p4 some,λa=>M.Fb qz.1 a some,λt' gW iG jA iF k' p p1 p2 p3 p4=>M.IX qz.2.2.2.2 qz.1 t' gW iG jA iF k' p p1 p2 p3 p4 some,λt' gW iG jA iF p p1 p2 p3 p4=>M.Bf qz.2.2.1 t' gW iG jA iF p p1 p2 p3 p4 some,λt' gW iG jA iF p p1 p2 p3 p4=>M.fG qz.2.1 qz.2.2.1 qz.2.2.2.1 t' gW iG jA iF p p1 p2 p3 p4 some)
def M.zY n:=(M.lT n).1
def M.Fg n:=(M.lT n).2.1
def M.Eh n:=(M.lT n).2.2.1
def M.Ik n:=(M.lT n).2.2.2.1
def M.Fh n:=(M.lT n).2.2.2.2
def M.ai5(n:Nat):M.zY (n+1)=λt' gW iG jA iF p p1 p2 p3 p4=>M.Fe (M.Fh n) t' gW iG jA iF p p1 p2 p3 p4 some:=rfl
def M.ai6(n:Nat):M.Fg (n+1)=λa=>M.Fb (M.zY n) a some:=rfl
def M.alc(n:Nat):M.Eh (n+1)=λt' gW iG jA iF k' p p1 p2 p3 p4=>M.IX (M.Fh n) (M.zY n) t' gW iG jA iF k' p p1 p2 p3 p4 some:=rfl
def M.agu(n:Nat):M.Ik (n+1)=λt' gW iG jA iF p p1 p2 p3 p4=>M.Bf (M.Eh n) t' gW iG jA iF p p1 p2 p3 p4 some:=rfl
def M.ai7(n:Nat):M.Fh (n+1)=λt' gW iG jA iF p p1 p2 p3 p4=>M.fG (M.Fg n) (M.Eh n) (M.Ik n) t' gW iG jA iF p p1 p2 p3 p4 some:=rfl
def M.je t' gW iG jA iF p p1 p2 p3 p4:=lim λn=>M.zY n t' gW iG jA iF p p1 p2 p3 p4
def M.qI kids:=lim λn=>M.Fg n kids
def M.Gw t' gW iG jA iF k' p p1 p2 p3 p4:=lim λn=>M.Eh n t' gW iG jA iF k' p p1 p2 p3 p4
def M.DZ t' gW iG jA iF p p1 p2 p3 p4:=lim λn=>M.Ik n t' gW iG jA iF p p1 p2 p3 p4
def M.BN t' gW iG jA iF p p1 p2 p3 p4:=lim λn=>M.Fh n t' gW iG jA iF p p1 p2 p3 p4
def C.lT:∀n,(S.je.ok X0 λx=>bJ (bJ (M.zY n) x.1.1) x.1.2.1)/\(S.qI.ok X0 λx=>M.Fg n x.1.1)/\(S.Gw.ok X0 λx=>bJ (bJ (M.Eh n) x.1.1 x.1.2.1) x.1.2.2.1)/\(S.DZ.ok X0 λx=>bJ (bJ (M.Ik n) x.1.1) x.1.2.1)/\(S.BN.ok X0 λx=>bJ (bJ (M.Fh n) x.1.1) x.1.2.1)
 |0=>⟨dQ.zero,dQ.zero,dQ.zero,dQ.zero,dQ.zero⟩
 |n+1=>have h:=C.lT n;⟨C.agt h.2.2.2.2,C.agq h.1,C.ai2 h.2.2.2.2 h.1,C.aeD h.2.2.1,C.agr h.2.1 h.2.2.1 h.2.2.2.1⟩
def C.je:S.je.ok X0 λx=>bJ (bJ M.je x.1.1) x.1.2.1:=dQ.lim λn=>(C.lT n).1
def M.agv{n:Nat}{t' gW:Int}{iG jA:aA}{iF:au}{p:Int}{p1 p2 p3 p4:Bool}{r:Int×Int×aA×au×Int}(h:M.zY n t' gW iG jA iF p p1 p2 p3 p4=some r):M.je t' gW iG jA iF p p1 p2 p3 p4=some r:=dQ.zL (λn=>(C.lT n).1) (by intro a b h;simp[S.je,rm,sg] at h;first|exact h|simp[Prod.ext_iff,h]) (x:=(((t',gW,iG,jA,iF,()),(p,p1,p2,p3,p4,()),()),())) h
def C.qI:S.qI.ok X0 λx=>M.qI x.1.1:=dQ.lim λn=>(C.lT n).2.1
def M.agw{n:Nat}{kids:au}{r:Int×Int×aA×au×Int}(h:M.Fg n kids=some r):M.qI kids=some r:=dQ.zL (λn=>(C.lT n).2.1) (by intro a b h;simp[S.qI,rm,sg] at h;first|exact h|simp[Prod.ext_iff,h]) (x:=((kids,((),()),()),())) h
def C.Gw:S.Gw.ok X0 λx=>bJ (bJ M.Gw x.1.1 x.1.2.1) x.1.2.2.1:=dQ.lim λn=>(C.lT n).2.2.1
def C.DZ:S.DZ.ok X0 λx=>bJ (bJ M.DZ x.1.1) x.1.2.1:=dQ.lim λn=>(C.lT n).2.2.2.1
def C.BN:S.BN.ok X0 λx=>bJ (bJ M.BN x.1.1) x.1.2.1:=dQ.lim λn=>(C.lT n).2.2.2.2
abbrev M.TR(t' gW:Int)(iG jA:aA)(iF:au)(k:Int×Int×aA×au×Int->Option R):=M.xZ.bind λa=>(M.je t' gW iG jA iF a.1 a.2.1 a.2.2.1 a.2.2.2.1 a.2.2.2.2).bind λb=>k ((wH b))
def M.nK t' gW iG jA iF:=M.TR t' gW iG jA iF some
def C.nK:=fTa S.nK (λx=>M.TR x.1.1.1 x.1.1.2.1 x.1.1.2.2.1 x.1.1.va.1 x.1.1.va.2.1) [fe C.xZ,fe C.je]
abbrev M.G9(v0:Int)(k:Int×Bool×Bool×Bool×Bool->Option R):=k (1,false,false,true,false)
def M.qZ v0:=M.G9 v0 some
def C.qZ:=fTa S.qZ (λx=>M.G9 x.1.1)
def M.yj(v9:au)(v10 x' kR:Int)(mY:aA)(rP:Int)(s:Int×au)(kn:Int×au->Option R)(ke:Int×au->Option R):Option R:=match s with
 |(v11,sD)=>bif decide (v11<v10) then((idx v9 v11).bind λf=>nC 5 f λaOT aOU aOV aOW auy=>(bif decide (v11>0) then((M.aU [44]).bind λc=>M.ER.bind λd=>jH sD [qQ c,qQ d] 64 λza=>(M.qZ v11).bind λa=>(M.je aOT aOU aOV aOW auy a.1 a.2.1 a.2.2.1 a.2.2.2.1 a.2.2.2.2).bind λe=>jH za [qQ e] 64 λh=>kn (i64.wrap (v11+1),h)) else (M.qZ v11).bind λb=>(M.je aOT aOU aOV aOW auy b.1 b.2.1 b.2.2.1 b.2.2.2.1 b.2.2.2.2).bind λg=>jH sD [qQ g] 64 λza=>kn (i64.wrap (v11+1),za))) else ke (v11,sD)
def M.ND v9 v10 x' kR mY rP s:=M.yj v9 v10 x' kR mY rP s (λs=>some (Sum.inl s)) λt=>some (Sum.inr t)
def M.Jq v9 v10 x' kR mY rP s:=dU (M.ND v9 v10 x' kR mY rP) s
def F.Jq:LE X0 98:=le 3 (Gj [bH 1 (av6 140 [] []),bH 4 (pP 300000 0),bH 5 (pO 300001 0),bH 9 (pL false 5),bH 10 pI,bH 11 pI] [bH 300000 zbe,bH 300001 zbb]) (λx=>(x.1.va.2.2.1,x.2.2.1)) (λx s=>((((),()),(),(),x.1.va.1,x.1.va.2.1,s.1,()),((x.2.1.1,x.2.1.2.1,x.2.1.2.2.1,(),x.2.1.va.2.1,()),s.2,()))) (λx=> .leaf (Int×au) (λt=>(Ex.exit 0,⟨[(1,V.clo 140 [] []),(4,V.ptr 300000 0),(5,V.own 300001 0),(9,F9 5 x.1.va.1),(10,iQ x.1.va.2.1),(11,iQ t.1),(12,uX false)],[(300000,Cell.box 58 [iQ x.2.1.1,iQ x.2.1.2.1,yG x.2.1.2.2.1,V.nil 5,iQ x.2.1.va.2.1]),(300001,Cell.arr false false 0 5 t.2)]⟩))) (λx=>M.yj x.1.va.1 x.1.va.2.1 x.2.1.1 x.2.1.2.1 x.2.1.2.2.1 x.2.1.va.2.1) [fe C.aU,fe C.ER,fe C.qZ,fe C.je] [] (by rintro _ _ ⟨_,_⟩ _ _<;>simp only[jH,qQ,nC,M.yj,nb]<;>rfl)
abbrev M.LP(kids:au)(k:Int×Int×aA×au×Int->Option R):=(M.Jq kids ((↑kids.length:Int)) 0 0 [] 0 (0,[])).bind λd=>(M.dY d.2).bind λa=>(M.zC a.1 a.2.1 a.2.2.1 (aG a.2.2.2.1) a.2.2.2.2).bind λb=>(M.zN b.1 b.2.1 b.2.2.1 (aG b.2.2.2.1) b.2.2.2.2).bind λc=>k ((wH c))
def M.sN kids:=M.LP kids some
def C.sN:=fTa S.sN (λx=>M.LP x.1.1) [fe C.dY,fe C.zC,fe C.zN] [F.Jq]
abbrev M.LQ(jA:aA)(iF:au)(Uz:Int×Int×aA×au×Int)(k:Int×Int×aA×au×Int->Option R):=cond (!jA==[]) (cond ((1+jA.length).ble 9223372036854775807) (cond ((([32]++jA).length+1).ble 9223372036854775807) ((M.aU ([32]++jA++[32])).bind λb=>(idx iF (i64.wrap ((↑iF.length:Int) - 1))).bind λe=>(bM .i64 e 0).bind λh=>(bM .i64 e 1).bind λg=>(cStr e 2).bind λf=>(cStr e 3).bind λj=>(NP 5 e 4).bind λi=>(M.je h g f j i 9 false false false false).bind λd=>(M.dY ([[D.int .i64 Uz.1,D.int .i64 Uz.2.1,D.str Uz.2.2.1,D.sl false 5 (aG Uz.2.2.2.1),D.int .i64 Uz.2.2.2.2]]++[[D.int .i64 b.1,D.int .i64 b.2.1,D.str b.2.2.1,D.sl false 5 (aG b.2.2.2.1),D.int .i64 b.2.2.2.2],[D.int .i64 d.1,D.int .i64 d.2.1,D.str d.2.2.1,D.sl false 5 (aG d.2.2.2.1),D.int .i64 d.2.2.2.2]])).bind λa=>k (a.1,a.2.1,a.2.2.1,aG a.2.2.2.1,a.2.2.2.2)) none) none) ((M.dY ([[D.int .i64 Uz.1,D.int .i64 Uz.2.1,D.str Uz.2.2.1,D.sl false 5 (aG Uz.2.2.2.1),D.int .i64 Uz.2.2.2.2]])).bind λc=>k (c.1,c.2.1,c.2.2.1,aG c.2.2.2.1,c.2.2.2.2))
abbrev M.LU(jA:aA)(iF:au)(Uz agx agy:Int×Int×aA×au×Int)(k:Int×Int×aA×au×Int->Option R):=cond (!jA==[]) (cond ((1+jA.length).ble 9223372036854775807) (cond ((([32]++jA).length+1).ble 9223372036854775807) ((M.aU ([32]++jA++[32])).bind λc=>(idx iF (i64.wrap ((↑iF.length:Int) - 1))).bind λb=>(bM .i64 b 0).bind λg=>(bM .i64 b 1).bind λj=>(cStr b 2).bind λi=>(cStr b 3).bind λf=>(NP 5 b 4).bind λh=>(M.je g j i f h 9 false false false false).bind λe=>(M.dY ([[D.int .i64 Uz.1,D.int .i64 Uz.2.1,D.str Uz.2.2.1,D.sl false 5 (aG Uz.2.2.2.1),D.int .i64 Uz.2.2.2.2]]++[[D.int .i64 agx.1,D.int .i64 agx.2.1,D.str agx.2.2.1,D.sl false 5 (aG agx.2.2.2.1),D.int .i64 agx.2.2.2.2],[D.int .i64 agy.1,D.int .i64 agy.2.1,D.str agy.2.2.1,D.sl false 5 (aG agy.2.2.2.1),D.int .i64 agy.2.2.2.2]]++[[D.int .i64 c.1,D.int .i64 c.2.1,D.str c.2.2.1,D.sl false 5 (aG c.2.2.2.1),D.int .i64 c.2.2.2.2],[D.int .i64 e.1,D.int .i64 e.2.1,D.str e.2.2.1,D.sl false 5 (aG e.2.2.2.1),D.int .i64 e.2.2.2.2]])).bind λa=>k (a.1,a.2.1,a.2.2.1,aG a.2.2.2.1,a.2.2.2.2)) none) none) ((M.dY ([[D.int .i64 Uz.1,D.int .i64 Uz.2.1,D.str Uz.2.2.1,D.sl false 5 (aG Uz.2.2.2.1),D.int .i64 Uz.2.2.2.2]]++[[D.int .i64 agx.1,D.int .i64 agx.2.1,D.str agx.2.2.1,D.sl false 5 (aG agx.2.2.2.1),D.int .i64 agx.2.2.2.2],[D.int .i64 agy.1,D.int .i64 agy.2.1,D.str agy.2.2.1,D.sl false 5 (aG agy.2.2.2.1),D.int .i64 agy.2.2.2.2]])).bind λd=>k (d.1,d.2.1,d.2.2.1,aG d.2.2.2.1,d.2.2.2.2))
abbrev M.OB(t' gW:Int)(iG jA:aA)(iF:au)(k:Int×Int×aA×au×Int->Option R):=cond (decide (0<=gW) && decide (gW<2)) ((cStr [D.str [112,114,105,110,116],D.str [112,114,105,110,116,102]] gW.toNat).bind λe=>(M.aU e).bind λb=>cond (!jA==[]) ((cut iF 0 (i64.wrap ((↑iF.length:Int) - 1))).bind λa=>cond (decide ((↑a.length:Int)>0)) ((M.aU [32]).bind λg=>(M.sN a).bind λf=>M.LU jA iF b g f k) (M.LQ jA iF b k)) (cond (decide ((↑iF.length:Int)>0)) ((M.aU [32]).bind λd=>(M.sN iF).bind λc=>M.LU jA iF b d c k) (M.LQ jA iF b k))) none
def M.y9 t' gW iG jA iF:=M.OB t' gW iG jA iF some
def C.y9:=fTa S.y9 (λx=>M.OB x.1.1.1 x.1.1.2.1 x.1.1.2.2.1 x.1.1.va.1 x.1.1.va.2.1) [fe C.aU,fe C.sN,fe C.je,fe C.dY]
abbrev M.TS(t' gW:Int)(iG jA:aA)(iF:au)(k:Int×Int×aA×au×Int->Option R):=cond (t'==16) ((M.aU []).bind λa=>k ((wH a))) ((M.aU [32]).bind λc=>(M.nK t' gW iG jA iF).bind λb=>(M.dY ([qQ c,qQ b])).bind λd=>k ((wH d)))
def M.wO t' gW iG jA iF:=M.TS t' gW iG jA iF some
def C.wO:=fTa S.wO (λx=>M.TS x.1.1.1 x.1.1.2.1 x.1.1.2.2.1 x.1.1.va.1 x.1.1.va.2.1) [fe C.aU,fe C.nK,fe C.dY]
abbrev M.QE(word:aA)(t' gW:Int)(iG jA:aA)(iF:au)(k:Int×Int×aA×au×Int->Option R):=cond ((↑iF.length:Int)==0) ((M.aU word).bind λe=>k ((wH e))) ((M.aU word).bind λd=>(idx iF 0).bind λb=>nC 5 b λa5a a5b a5c a5d aDX=>((M.wO a5a a5b a5c a5d aDX).bind λa=>(M.dY ([qQ d,qQ a])).bind λc=>k ((wH c))))
def M.yI word t' gW iG jA iF:=M.QE word t' gW iG jA iF some
def C.yI:=fTa S.yI (λx=>M.QE x.1.1 x.1.2.1.1 x.1.2.1.2.1 x.1.2.1.2.2.1 x.1.2.1.va.1 x.1.2.1.va.2.1) [fe C.aU,fe C.wO,fe C.dY]
def M.uZ(dL:zad)(t' gW:Int)(iG jA:aA)(iF:au)(k:Int×Int×aA×au×Int->Option R):=(M.aU [105,102,32,40]).bind λg=>(idx iF 0).bind λf=>nC 5 f λa5h a5i a5j a5k aDY=>((M.nK a5h a5i a5j a5k aDY).bind λj=>(M.aU [41,32]).bind λl=>(idx iF 1).bind λh=>nC 5 h λa5n a5o a5p a5q aDZ=>((dL a5n a5o a5p a5q aDZ).bind λb=>(M.dY ([qQ g,qQ j,qQ l,qQ b])).bind λa=>cond (decide ((↑iF.length:Int)>2)) ((M.aU [32,101,108,115,101,32]).bind λe=>(idx iF 2).bind λc=>nC 5 c λa5t a5u a5v a5w aD0=>((dL a5t a5u a5v a5w aD0).bind λd=>(M.dY ([qQ a,qQ e,qQ d])).bind λi=>k ((wH i)))) (k ((wH a)))))
def C.adw{dL:zad}(Il:S.kD.ok X0 λx=>bJ dL x.1.1):S.zO.ok X0 λx=>bJ (M.uZ dL) x.1.1 some:=fnS (λx=>M.uZ dL x.1.1.1 x.1.1.2.1 x.1.1.2.2.1 x.1.1.va.1 x.1.1.va.2.1) [fe C.aU,fe C.nK,fe Il,fe C.dY] [] (by intros;simp only[qQ,wH,nC,M.uZ,nb]<;>rfl)
abbrev M.Io(iF:au)(dL:zad)(atl:Int×Int×aA×au×Int)(k:Int×Int×aA×au×Int->Option R):=(M.aU [102,111,114,32,40]).bind λe=>(M.aU [59]).bind λj=>(idx iF 1).bind λa=>(bM .i64 a 0).bind λz=>(bM .i64 a 1).bind λr=>(cStr a 2).bind λo=>(cStr a 3).bind λq=>(NP 5 a 4).bind λp=>(M.wO z r o q p).bind λb=>(M.aU [59]).bind λh=>(idx iF 2).bind λi=>(bM .i64 i 0).bind λv=>(bM .i64 i 1).bind λs=>(cStr i 2).bind λu=>(cStr i 3).bind λt=>(NP 5 i 4).bind λm=>(M.wO v s u t m).bind λc=>(M.aU [41,32]).bind λf=>(idx iF 3).bind λl=>(bM .i64 l 0).bind λx=>(bM .i64 l 1).bind λy=>(cStr l 2).bind λA=>(cStr l 3).bind λn=>(NP 5 l 4).bind λw=>(dL x y A n w).bind λg=>(M.dY ([[D.int .i64 e.1,D.int .i64 e.2.1,D.str e.2.2.1,D.sl false 5 (aG e.2.2.2.1),D.int .i64 e.2.2.2.2],[D.int .i64 atl.1,D.int .i64 atl.2.1,D.str atl.2.2.1,D.sl false 5 (aG atl.2.2.2.1),D.int .i64 atl.2.2.2.2],[D.int .i64 j.1,D.int .i64 j.2.1,D.str j.2.2.1,D.sl false 5 (aG j.2.2.2.1),D.int .i64 j.2.2.2.2],[D.int .i64 b.1,D.int .i64 b.2.1,D.str b.2.2.1,D.sl false 5 (aG b.2.2.2.1),D.int .i64 b.2.2.2.2],[D.int .i64 h.1,D.int .i64 h.2.1,D.str h.2.2.1,D.sl false 5 (aG h.2.2.2.1),D.int .i64 h.2.2.2.2],[D.int .i64 c.1,D.int .i64 c.2.1,D.str c.2.2.1,D.sl false 5 (aG c.2.2.2.1),D.int .i64 c.2.2.2.2],[D.int .i64 f.1,D.int .i64 f.2.1,D.str f.2.2.1,D.sl false 5 (aG f.2.2.2.1),D.int .i64 f.2.2.2.2],[D.int .i64 g.1,D.int .i64 g.2.1,D.str g.2.2.1,D.sl false 5 (aG g.2.2.2.1),D.int .i64 g.2.2.2.2]])).bind λd=>k (d.1,d.2.1,d.2.2.1,aG d.2.2.2.1,d.2.2.2.2)
def M.zZ(dL:zad)(t' gW:Int)(iG jA:aA)(iF:au)(k:Int×Int×aA×au×Int->Option R):=(M.aU []).bind λe=>(idx iF 0).bind λb=>(bM .i64 b 0).bind λc=>cond (c !=16) ((idx iF 0).bind λa=>nC 5 a λa5N a5O a5P a5Q aD4=>((M.je a5N a5O a5P a5Q aD4 1 false true false false).bind λd=>M.Io iF dL d k)) (M.Io iF dL e k)
def C.agz{dL:zad}(Il:S.kD.ok X0 λx=>bJ dL x.1.1):S.GV.ok X0 λx=>bJ (M.zZ dL) x.1.1 some:=fnS (λx=>M.zZ dL x.1.1.1 x.1.1.2.1 x.1.1.2.2.1 x.1.1.va.1 x.1.1.va.2.1) [fe C.aU,fe C.je,fe C.wO,fe Il,fe C.dY] [] (by intros;simp only[nC,M.zZ,M.Io,nb]<;>rfl)
def M.fQ(Aa:zad)(dL:zad)(Fj:zad)(t' gW:Int)(iG jA:aA)(iF:au)(k:Int×Int×aA×au×Int->Option R):=cond (t'==20) ((idx iF 0).bind λz=>nC 5 z λa5R a5S a5T a5U aD5=>((M.nK a5R a5S a5T a5U aD5).bind λI=>k ((wH I)))) (cond (t'==21) ((M.y9 t' gW iG jA iF).bind λK=>k ((wH K))) (cond (t'==22) ((M.aU [110,101,120,116]).bind λi=>k ((wH i))) (cond (t'==25) ((M.aU [98,114,101,97,107]).bind λf=>k ((wH f))) (cond (t'==26) ((M.aU [99,111,110,116,105,110,117,101]).bind λg=>k ((wH g))) (cond (t'==23) ((M.yI [101,120,105,116] t' gW iG jA iF).bind λy=>k ((wH y))) (cond (t'==24) ((M.yI [114,101,116,117,114,110] t' gW iG jA iF).bind λA=>k ((wH A))) (cond (t'==27) (cond ((↑iF.length:Int)==0) (cond ((7+iG.length).ble 9223372036854775807) ((M.aU ([100,101,108,101,116,101,32]++iG)).bind λJ=>k ((wH J))) none) (cond ((7+iG.length).ble 9223372036854775807) (cond ((([100,101,108,101,116,101,32]++iG).length+1).ble 9223372036854775807) ((M.aU ([100,101,108,101,116,101,32]++iG++[91])).bind λu=>(M.qI iF).bind λH=>(M.aU [93]).bind λD=>(M.dY ([qQ u,qQ H,qQ D])).bind λc=>k ((wH c))) none) none)) (cond (t'==28) ((Aa t' gW iG jA iF).bind λF=>k ((wH F))) (cond (t'==29) ((M.aU [119,104,105,108,101,32,40]).bind λa=>(idx iF 0).bind λn=>nC 5 n λa6j a6k a6l a6m aD6=>((M.nK a6j a6k a6l a6m aD6).bind λo=>(M.aU [41,32]).bind λb=>(idx iF 1).bind λv=>nC 5 v λa6p a6q a6r a6s aD7=>((dL a6p a6q a6r a6s aD7).bind λE=>(M.dY ([qQ a,qQ o,qQ b,qQ E])).bind λx=>k ((wH x))))) (cond (t'==30) ((M.aU [100,111,32]).bind λr=>(idx iF 0).bind λe=>nC 5 e λa6w a6x a6y a6z aD8=>((dL a6w a6x a6y a6z aD8).bind λh=>(M.aU [32,119,104,105,108,101,32,40]).bind λl=>(idx iF 1).bind λs=>nC 5 s λa6C a6D a6E a6F aD9=>((M.nK a6C a6D a6E a6F aD9).bind λm=>(M.aU [41]).bind λq=>(M.dY ([qQ r,qQ h,qQ l,qQ m,qQ q])).bind λC=>k ((wH C))))) (cond (t'==31) ((Fj t' gW iG jA iF).bind λG=>k ((wH G))) (cond (t'==32) (cond ((5+iG.length).ble 9223372036854775807) (cond ((([102,111,114,32,40]++iG).length+4).ble 9223372036854775807) (cond ((([102,111,114,32,40]++iG++[32,105,110,32]).length+jA.length).ble 9223372036854775807) (cond ((([102,111,114,32,40]++iG++[32,105,110,32]++jA).length+2).ble 9223372036854775807) ((M.aU ([102,111,114,32,40]++iG++[32,105,110,32]++jA++[41,32])).bind λB=>(idx iF 0).bind λj=>nC 5 j λa6L a6M a6N a6O aEa=>((dL a6L a6M a6N a6O aEa).bind λt=>(M.dY ([qQ B,qQ t])).bind λp=>k ((wH p)))) none) none) none) none) (cond (t'==33) ((dL t' gW iG jA iF).bind λd=>k ((wH d))) ((M.aU iG).bind λw=>k ((wH w))))))))))))))))
def C.agA{Aa:zad}{dL:zad}{Fj:zad}(aeE:S.zO.ok X0 λx=>bJ Aa x.1.1)(Il:S.kD.ok X0 λx=>bJ dL x.1.1)(ajd:S.GV.ok X0 λx=>bJ Fj x.1.1):S.qJ.ok X0 λx=>bJ (M.fQ Aa dL Fj) x.1.1 some:=fnS (λx=>M.fQ Aa dL Fj x.1.1.1 x.1.1.2.1 x.1.1.2.2.1 x.1.1.va.1 x.1.1.va.2.1) [fe C.nK,fe C.y9,fe C.aU,fe C.yI,fe C.qI,fe C.dY,fe aeE,fe Il,fe ajd] [] (by intros;simp only[M.fQ,qQ,wH,nC];exact zbn)
def M.Ac(jJ:zad)(v8:au)(v9 x' kR:Int)(mY:aA)(rP:Int)(s:Int×au)(kn:Int×au->Option R)(ke:Int×au->Option R):Option R:=match s with
 |(v10,sD)=>bif decide (v10<v9) then((idx v8 v10).bind λc=>nC 5 c λa6T a6U a6V a6W aEb=>(M.EP.bind λb=>(jJ a6T a6U a6V a6W aEb).bind λa=>jH sD [qQ b,qQ a] 64 λd=>kn (i64.wrap (v10+1),d))) else ke (v10,sD)
def M.He jJ v8 v9 x' kR mY rP s:=M.Ac jJ v8 v9 x' kR mY rP s (λs=>some (Sum.inl s)) λt=>some (Sum.inr t)
def M.LV jJ v8 v9 x' kR mY rP s:=dU (M.He jJ v8 v9 x' kR mY rP) s
def F.LV{jJ:zad}(Wn:S.qJ.ok X0 λx=>bJ jJ x.1.1):LE X0 57:=le 3 (Gj [bH 2 (pP 300000 0),bH 3 (pO 300001 0),bH 8 (pL false 5),bH 9 pI,bH 10 pI] [bH 300000 zbe,bH 300001 zbb]) (λx=>(x.1.va.2.1,x.2.2.1)) (λx s=>(((),(),x.1.2.2.1,x.1.va.1,s.1,()),((x.2.1.1,x.2.1.2.1,x.2.1.2.2.1,(),x.2.1.va.2.1,()),s.2,()))) (λx=> .leaf (Int×au) (λt=>(Ex.exit 0,⟨[(2,V.ptr 300000 0),(3,V.own 300001 0),(8,F9 5 x.1.2.2.1),(9,iQ x.1.va.1),(10,iQ t.1),(11,uX false)],[(300000,Cell.box 58 [iQ x.2.1.1,iQ x.2.1.2.1,yG x.2.1.2.2.1,V.nil 5,iQ x.2.1.va.2.1]),(300001,Cell.arr false false 0 5 t.2)]⟩))) (λx=>M.Ac jJ x.1.2.2.1 x.1.va.1 x.2.1.1 x.2.1.2.1 x.2.1.2.2.1 x.2.1.va.2.1) [fe C.EP,fe Wn] [] (by rintro _ _ ⟨_,_⟩ _ _<;>simp only[jH,qQ,nC,M.Ac,nb]<;>rfl)
def M.Bg(jJ:zad)(t' gW:Int)(iG jA:aA)(iF:au)(k:Int×Int×aA×au×Int->Option R):=(M.LV jJ iF ((↑iF.length:Int)) 0 0 [] 0 (0,[])).bind λg=>(M.aU [123]).bind λb=>(M.dY g.2).bind λa=>(M.zC a.1 a.2.1 a.2.2.1 (aG a.2.2.2.1) a.2.2.2.2).bind λe=>M.EP.bind λd=>(M.aU [125]).bind λc=>(M.dY ([qQ b,qQ e,qQ d,qQ c])).bind λf=>k ((wH f))
def C.aeF{jJ:zad}(Wn:S.qJ.ok X0 λx=>bJ jJ x.1.1):S.kD.ok X0 λx=>bJ (M.Bg jJ) x.1.1 some:=fnS (λx=>M.Bg jJ x.1.1.1 x.1.1.2.1 x.1.1.2.2.1 x.1.1.va.1 x.1.1.va.2.1) [fe C.aU,fe C.dY,fe C.zC,fe C.EP] [F.LV Wn] (by intros;simp only[qQ,wH,M.Bg,nb]<;>rfl)
def M.mP:Nat->(zad)×(zad)×(zad)×(zad):=Nat.rec (λ_ _ _ _ _=>none,λ_ _ _ _ _=>none,λ_ _ _ _ _=>none,λ_ _ _ _ _=>none) λ_ qz=>(λt' gW iG jA iF=>M.Bg qz.2.2.2 t' gW iG jA iF some,λt' gW iG jA iF=>M.uZ qz.1 t' gW iG jA iF some,λt' gW iG jA iF=>M.zZ qz.1 t' gW iG jA iF some,λt' gW iG jA iF=>M.fQ qz.2.1 qz.1 qz.2.2.1 t' gW iG jA iF some)
def M.qP n:=(M.mP n).1
def M.LW n:=(M.mP n).2.1
def M.QF n:=(M.mP n).2.2.1
def M.wY n:=(M.mP n).2.2.2
def M.agB(n:Nat):M.qP (n+1)=λt' gW iG jA iF=>M.Bg (M.wY n) t' gW iG jA iF some:=rfl
def M.Yd(n:Nat):M.LW (n+1)=λt' gW iG jA iF=>M.uZ (M.qP n) t' gW iG jA iF some:=rfl
def M.aaj(n:Nat):M.QF (n+1)=λt' gW iG jA iF=>M.zZ (M.qP n) t' gW iG jA iF some:=rfl
def M.aje(n:Nat):M.wY (n+1)=λt' gW iG jA iF=>M.fQ (M.LW n) (M.qP n) (M.QF n) t' gW iG jA iF some:=rfl
def M.kD t' gW iG jA iF:=lim λn=>M.qP n t' gW iG jA iF
def M.zO t' gW iG jA iF:=lim λn=>M.LW n t' gW iG jA iF
def M.GV t' gW iG jA iF:=lim λn=>M.QF n t' gW iG jA iF
def M.qJ t' gW iG jA iF:=lim λn=>M.wY n t' gW iG jA iF
def C.mP:∀n,(S.kD.ok X0 λx=>bJ (M.qP n) x.1.1)/\(S.zO.ok X0 λx=>bJ (M.LW n) x.1.1)/\(S.GV.ok X0 λx=>bJ (M.QF n) x.1.1)/\(S.qJ.ok X0 λx=>bJ (M.wY n) x.1.1)
 |0=>⟨dQ.zero,dQ.zero,dQ.zero,dQ.zero⟩
 |n+1=>have h:=C.mP n;⟨C.aeF h.2.2.2,C.adw h.1,C.agz h.1,C.agA h.2.1 h.1 h.2.2.1⟩
def C.kD:S.kD.ok X0 λx=>bJ M.kD x.1.1:=dQ.lim λn=>(C.mP n).1
def M.aeG{n:Nat}{t' gW:Int}{iG jA:aA}{iF:au}{r:Int×Int×aA×au×Int}(h:M.qP n t' gW iG jA iF=some r):M.kD t' gW iG jA iF=some r:=dQ.zL (λn=>(C.mP n).1) (by intro a b h;simp[S.kD,rm,sg] at h;first|exact h|simp[Prod.ext_iff,h]) (x:=(((t',gW,iG,jA,iF,()),()),())) h
def C.zO:S.zO.ok X0 λx=>bJ M.zO x.1.1:=dQ.lim λn=>(C.mP n).2.1
def C.GV:S.GV.ok X0 λx=>bJ M.GV x.1.1:=dQ.lim λn=>(C.mP n).2.2.1
def C.qJ:S.qJ.ok X0 λx=>bJ M.qJ x.1.1:=dQ.lim λn=>(C.mP n).2.2.2
def M.agC{n:Nat}{t' gW:Int}{iG jA:aA}{iF:au}{r:Int×Int×aA×au×Int}(h:M.wY n t' gW iG jA iF=some r):M.qJ t' gW iG jA iF=some r:=dQ.zL (λn=>(C.mP n).2.2.2) (by intro a b h;simp[S.qJ,rm,sg] at h;first|exact h|simp[Prod.ext_iff,h]) (x:=(((t',gW,iG,jA,iF,()),()),())) h
abbrev M.uM(sD:au)(aak:Int×Int×aA×au×Int)(kn:Int×au->Option R)(v10:Int):=cond (((sD.length+[[D.int .i64 aak.1,D.int .i64 aak.2.1,D.str aak.2.2.1,D.sl false 5 (aG aak.2.2.2.1),D.int .i64 aak.2.2.2.2]].length) * 64).ble 140737488355328) (cond ((sD.length+[[D.int .i64 aak.1,D.int .i64 aak.2.1,D.str aak.2.2.1,D.sl false 5 (aG aak.2.2.2.1),D.int .i64 aak.2.2.2.2]].length).ble 140737488355328) (kn (i64.wrap (v10+1),sD++[[D.int .i64 aak.1,D.int .i64 aak.2.1,D.str aak.2.2.1,D.sl false 5 (aG aak.2.2.2.1),D.int .i64 aak.2.2.2.2]])) none) none
abbrev M.Ad(aob atm:Int)(atn ato:aA)(YT sD:au)(kn:Int×au->Option R)(v10:Int):=cond (aob==33) ((M.kD aob atm atn ato YT).bind λd=>M.uM sD d kn v10) (cond (decide (v10>0)) ((M.aU [44,32]).bind λb=>(M.nK aob atm atn ato YT).bind λa=>cond (((sD.length+[[D.int .i64 b.1,D.int .i64 b.2.1,D.str b.2.2.1,D.sl false 5 (aG b.2.2.2.1),D.int .i64 b.2.2.2.2],[D.int .i64 a.1,D.int .i64 a.2.1,D.str a.2.2.1,D.sl false 5 (aG a.2.2.2.1),D.int .i64 a.2.2.2.2]].length) * 64).ble 140737488355328) (cond ((sD.length+[[D.int .i64 b.1,D.int .i64 b.2.1,D.str b.2.2.1,D.sl false 5 (aG b.2.2.2.1),D.int .i64 b.2.2.2.2],[D.int .i64 a.1,D.int .i64 a.2.1,D.str a.2.2.1,D.sl false 5 (aG a.2.2.2.1),D.int .i64 a.2.2.2.2]].length).ble 140737488355328) (kn (i64.wrap (v10+1),sD++[[D.int .i64 b.1,D.int .i64 b.2.1,D.str b.2.2.1,D.sl false 5 (aG b.2.2.2.1),D.int .i64 b.2.2.2.2],[D.int .i64 a.1,D.int .i64 a.2.1,D.str a.2.2.1,D.sl false 5 (aG a.2.2.2.1),D.int .i64 a.2.2.2.2]])) none) none) ((M.nK aob atm atn ato YT).bind λc=>M.uM sD c kn v10))
def M.CS(v8:au)(v9 x' kR:Int)(mY:aA)(rP:Int)(s:Int×au)(kn:Int×au->Option R)(ke:Int×au->Option R):Option R:=match s with
 |(v10,sD)=>bif decide (v10<v9) then((idx v8 v10).bind λc=>nC 5 c λaob atm atn ato YT=>(bif aob==33 then(bif decide (v10>0) then((M.aU [32]).bind λa=>(M.kD aob atm atn ato YT).bind λb=>jH sD [qQ a,qQ b] 64 λd=>kn (i64.wrap (v10+1),d)) else M.Ad aob atm atn ato YT sD kn v10) else M.Ad aob atm atn ato YT sD kn v10)) else ke (v10,sD)
def M.Jr v8 v9 x' kR mY rP s:=M.CS v8 v9 x' kR mY rP s (λs=>some (Sum.inl s)) λt=>some (Sum.inr t)
def M.OC v8 v9 x' kR mY rP s:=dU (M.Jr v8 v9 x' kR mY rP) s
def F.OC:LE X0 58:=le 3 (Gj [bH 2 (pP 300000 0),bH 3 (pO 300001 0),bH 8 (pL false 5),bH 9 pI,bH 10 pI] [bH 300000 zbe,bH 300001 zbb]) (λx=>(x.1.va.2.1,x.2.2.1)) (λx s=>(((),(),x.1.2.2.1,x.1.va.1,s.1,()),((x.2.1.1,x.2.1.2.1,x.2.1.2.2.1,(),x.2.1.va.2.1,()),s.2,()))) (λx=> .leaf (Int×au) (λt=>(Ex.exit 0,⟨[(2,V.ptr 300000 0),(3,V.own 300001 0),(8,F9 5 x.1.2.2.1),(9,iQ x.1.va.1),(10,iQ t.1),(11,uX false)],[(300000,Cell.box 58 [iQ x.2.1.1,iQ x.2.1.2.1,yG x.2.1.2.2.1,V.nil 5,iQ x.2.1.va.2.1]),(300001,Cell.arr false false 0 5 t.2)]⟩))) (λx=>M.CS x.1.2.2.1 x.1.va.1 x.2.1.1 x.2.1.2.1 x.2.1.2.2.1 x.2.1.va.2.1) [fe C.aU,fe C.kD,fe C.nK] [] (by rintro _ _ ⟨_,_⟩ _ _<;>simp only[jH,qQ,nC,M.CS,M.Ad,M.uM,nb]<;>rfl)
abbrev M.QG(t' gW:Int)(iG jA:aA)(iF:au)(k:Int×Int×aA×au×Int->Option R):=(M.OC iF ((↑iF.length:Int)) 0 0 [] 0 (0,[])).bind λb=>(M.dY b.2).bind λa=>k ((wH a))
def M.yJ t' gW iG jA iF:=M.QG t' gW iG jA iF some
def C.yJ:=fTa S.yJ (λx=>M.QG x.1.1.1 x.1.1.2.1 x.1.1.2.2.1 x.1.1.va.1 x.1.1.va.2.1) [fe C.dY] [F.OC]
def C.strings_Join:S.strings_Join.ok X0 λx=>M.strings_Join x.1.1 x.1.2.1:=dQ.Zx (p:=Prim.strings_Join)
def M.Fp(v13:au)(v14 x' kR:Int)(mY rP:aA)(sD:au)(s:Int×au)(kn:Int×au->Option R)(ke:Int×au->Option R):Option R:=match s with
 |(v15,P7)=>bif decide (v15<v14) then((idx v13 v15).bind λa=>nC 5 a λ_ _ a7k _ _=>(jH P7 [[D.str a7k]] 16 λb=>kn (i64.wrap (v15+1),b))) else ke (v15,P7)
def M.LX v13 v14 x' kR mY rP sD s:=M.Fp v13 v14 x' kR mY rP sD s (λs=>some (Sum.inl s)) λt=>some (Sum.inr t)
def M.QH v13 v14 x' kR mY rP sD s:=dU (M.LX v13 v14 x' kR mY rP sD) s
def F.QH:LE X0 59:=le 3 (Gj [bH 1 (pP 300000 0),bH 3 (pO 300001 0),bH 13 (pL false 5),bH 14 pI,bH 15 pI] [bH 300000 (cB 55 zaY),bH 300001 zaZ]) (λx=>(x.1.va.2.1,x.2.2.1)) (λx s=>(((),(),x.1.2.2.1,x.1.va.1,s.1,()),((x.2.1.1,x.2.1.2.1,x.2.1.2.2.1,x.2.1.va.1,x.2.1.va.2.1,()),s.2,()))) (λx=> .leaf (Int×au) (λt=>(Ex.exit 0,⟨[(1,V.ptr 300000 0),(3,V.own 300001 0),(13,F9 5 x.1.2.2.1),(14,iQ x.1.va.1),(15,iQ t.1),(16,uX false)],[(300000,Cell.box 55 [iQ x.2.1.1,iQ x.2.1.2.1,yG x.2.1.2.2.1,yG x.2.1.va.1,F9 5 x.2.1.va.2.1]),(300001,Cell.arr false true 0 1 t.2)]⟩))) (λx=>M.Fp x.1.2.2.1 x.1.va.1 x.2.1.1 x.2.1.2.1 x.2.1.2.2.1 x.2.1.va.1 x.2.1.va.2.1) [] [] (by rintro _ _ ⟨_,_⟩ _ _<;>simp only[jH,nC,M.Fp,nb]<;>rfl)
abbrev M.TT(t' gW:Int)(iG jA:aA)(iF:au)(k:aA->Option R):=(cut iF 0 (i64.wrap ((↑iF.length:Int) - 1))).bind λb=>(M.QH b ((↑b.length:Int)) t' gW iG jA iF (0,[])).bind λc=>cond ((9+iG.length).ble 9223372036854775807) (cond ((([102,117,110,99,116,105,111,110,32]++iG).length+1).ble 9223372036854775807) ((M.strings_Join c.2 [44,32]).bind λa=>cond ((([102,117,110,99,116,105,111,110,32]++iG++[40]).length+a.length).ble 9223372036854775807) (cond ((([102,117,110,99,116,105,111,110,32]++iG++[40]++a).length+1).ble 9223372036854775807) (k ([102,117,110,99,116,105,111,110,32]++iG++[40]++a++[41])) none) none) none) none
def M.Gx t' gW iG jA iF:=M.TT t' gW iG jA iF some
def C.Gx:=fTa S.Gx (λx=>M.TT x.1.1.1 x.1.1.2.1 x.1.1.2.2.1 x.1.1.va.1 x.1.1.va.2.1) [fe C.strings_Join] [F.QH]
abbrev M.Ip(acG:Row)(atp:Int×Int×aA×au×Int)(k:Int×Int×aA×au×Int->Option R):=(bM .i64 acG 0).bind λe=>(bM .i64 acG 1).bind λd=>(cStr acG 2).bind λf=>(cStr acG 3).bind λg=>(NP 5 acG 4).bind λc=>(M.kD e d f g c).bind λa=>(M.dY ([[D.int .i64 atp.1,D.int .i64 atp.2.1,D.str atp.2.2.1,D.sl false 5 (aG atp.2.2.2.1),D.int .i64 atp.2.2.2.2],[D.int .i64 a.1,D.int .i64 a.2.1,D.str a.2.2.1,D.sl false 5 (aG a.2.2.2.1),D.int .i64 a.2.2.2.2]])).bind λb=>k (b.1,b.2.1,b.2.2.1,aG b.2.2.2.1,b.2.2.2.2)
abbrev M.QI(t' gW:Int)(iG jA:aA)(iF:au)(k:Int×Int×aA×au×Int->Option R):=cond (t'==40) ((M.aU [66,69,71,73,78,32]).bind λe=>(idx iF 0).bind λd=>M.Ip d e k) (cond (t'==41) ((M.aU [69,78,68,32]).bind λf=>(idx iF 0).bind λb=>M.Ip b f k) (cond (t'==42) ((M.yJ t' gW iG jA iF).bind λi=>k ((wH i))) (cond (t'==43) ((M.yJ t' gW iG jA iF).bind λj=>k ((wH j))) (cond (t'==44) ((M.Gx t' gW iG jA iF).bind λa=>cond ((a.length+1).ble 9223372036854775807) ((M.aU (a++[32])).bind λh=>(idx iF (i64.wrap ((↑iF.length:Int) - 1))).bind λc=>M.Ip c h k) none) ((M.qJ t' gW iG jA iF).bind λg=>k ((wH g)))))))
def M.BO t' gW iG jA iF:=M.QI t' gW iG jA iF some
def C.BO:=fTa S.BO (λx=>M.QI x.1.1.1 x.1.1.2.1 x.1.1.2.2.1 x.1.1.va.1 x.1.1.va.2.1) [fe C.aU,fe C.kD,fe C.dY,fe C.yJ,fe C.Gx,fe C.qJ]
def M.sV(jq:zan)(s:zaC⊕zaD)(kn:zaC⊕zaD->Option R)(ke:zaC⊕zaD->Option R):Option R:=match s with
 | .inl (v16,v17,v18,x',kR,mY,rP)=>bif decide (v18<v17) then((idx v16 v18).bind λa=>(bM .i64 a 0).bind λe=>(bM .i64 a 1).bind λg=>(cStr a 2).bind λk=>(NP 5 a 3).bind λf=>(bM .i64 a 4).bind λm=>(jq e g k f m x').bind λd=>kn (.inr (v16,v17,i64.wrap (v18+1),d,kR,mY,rP,[[D.int .i64 (i64.wrap ((↑d.length:Int) - 1))]]))) else(ke (.inl (v16,v17,v18,x',kR,mY,rP)))
 | .inr (v16,v17,v18,x',kR,mY,rP,sD)=>bif decide (v18<v17) then((idx v16 v18).bind λb=>(bM .i64 b 0).bind λh=>(bM .i64 b 1).bind λi=>(cStr b 2).bind λj=>(NP 5 b 3).bind λl=>(bM .i64 b 4).bind λn=>(jq h i j l n x').bind λc=>jH sD [[D.int .i64 (i64.wrap ((↑c.length:Int) - 1))]] 8 λo=>kn (.inr (v16,v17,i64.wrap (v18+1),c,kR,mY,rP,o))) else ke (.inr (v16,v17,v18,x',kR,mY,rP,sD))
def M.xC jq s:=M.sV jq s (λs=>some (Sum.inl s)) λt=>some (Sum.inr t)
def M.OD jq s:=dU (M.xC jq) s
def F.OD{jq:zan}(Wp:S.qK.ok X0 λx=>bJ jq x.1.1 x.1.2.1):LE X0 61:=le 3 (pOr (Gj [bH 1 (pO 300000 0),bH 5 (pP 300001 0),bH 16 (pL false 5),bH 17 pI,bH 18 pI] [bH 300000 zbi,bH 300001 (cB 93 [pI,pI,pS,aco 1])]) (Gj [bH 1 (pO 300000 0),bH 5 (pP 300001 0),bH 16 (pL false 5),bH 17 pI,bH 18 pI] [bH 300000 zbi,bH 300001 (cB 93 [pI,pI,pS,pO 300002 0]),bH 300002 zaZ])) (σ:=zaC⊕zaD) (λx=>(match x with| .inl x=> .inl ((x.1.2.2.1,x.1.va.1,x.1.va.2.1,x.2.1,x.2.2.1.1,x.2.2.1.2.1,x.2.2.1.2.2.1))| .inr x=> .inr ((x.1.2.2.1,x.1.va.1,x.1.va.2.1,x.2.1,x.2.2.1.1,x.2.2.1.2.1,x.2.2.1.2.2.1,x.va.1)))) (λx s=>(match s with| .inl s=> .inl ((((),(),s.1,s.2.1,s.2.2.1,()),(s.va.1,(s.va.2.1,s.va.2.2.1,s.va.va,(),()),())))| .inr s=> .inr ((((),(),s.1,s.2.1,s.2.2.1,()),(s.va.1,(s.va.2.1,s.va.2.2.1,s.va.va.1,(),()),s.va.va.2,()))))) (λx=> .sum (.leaf zaC (λt=>(Ex.exit 0,⟨[(1,V.own 300000 0),(5,V.ptr 300001 0),(16,F9 5 t.1),(17,iQ t.2.1),(18,iQ t.2.2.1),(19,uX false)],[(300000,Cell.arr false false 0 4 t.va.1),(300001,Cell.box 93 [iQ t.va.2.1,iQ t.va.2.2.1,yG t.va.va,V.nil 1])]⟩))) (.leaf zaD (λt=>(Ex.exit 0,⟨[(1,V.own 300000 0),(5,V.ptr 300001 0),(16,F9 5 t.1),(17,iQ t.2.1),(18,iQ t.2.2.1),(19,uX false)],[(300000,Cell.arr false false 0 4 t.va.1),(300001,Cell.box 93 [iQ t.va.2.1,iQ t.va.2.2.1,yG t.va.va.1,V.own 300002 0]),(300002,Cell.arr false true 0 1 t.va.va.2)]⟩)))) (λx=>M.sV jq) [fe Wp] [] (by rintro _ _ (⟨_,_,_,_,_,_,_⟩|⟨_,_,_,_,_,_,_,_⟩) _ _<;>simp only[jH,M.sV,nb]<;>rfl) (hE:=by intro _ _ s _;rcases s with s|s<;>kernel_rfl)
def M.KA(jq:zan)(d d1:Int)(d2:aA)(d3:au)(d4:Int)(l:au)(k:au->Option R):=(M.OD jq (.inl (d3,(↑d3.length:Int),0,l,d,d1,d2))).bind λe=>rO e (λb=>jH b.2.2.2.1 [[D.int .i64 b.2.2.2.2.1,D.int .i64 b.2.2.2.2.2.1,D.str b.2.2.2.2.2.2,D.sl true 1 []]] 56 λza=>k za) λc=>letE c λa=>cond (ay a.2.2.2.2.2.2.2) (jH a.2.2.2.1 [[D.int .i64 a.2.2.2.2.1,D.int .i64 a.2.2.2.2.2.1,D.str a.2.2.2.2.2.2.1,D.sl true 1 a.2.2.2.2.2.2.2]] 56 λza=>k za) none
def M.lU:Nat->Int->Int->aA->au->Int->au->Option (au)
 |0=>λ_ _ _ _ _ _=>none
 |n+1=>λd d1 d2 d3 d4 l=>M.KA (M.lU n) d d1 d2 d3 d4 l some
def M.qK d d1 d2 d3 d4 l:=lim λn=>M.lU n d d1 d2 d3 d4 l
def C.agD{jq:zan}(Wp:S.qK.ok X0 λx=>bJ jq x.1.1 x.1.2.1):S.qK.ok X0 λx=>bJ (M.KA jq) x.1.1 x.1.2.1 some:=fnS (λx=>M.KA jq x.1.1.1 x.1.1.2.1 x.1.1.2.2.1 x.1.1.va.1 x.1.1.va.2.1 x.1.2.1) [] [F.OD Wp] (by intros;simp only[jH,M.KA,nb]<;>rfl)
def C.lU:∀n,S.qK.ok X0 λx=>M.lU n x.1.1.1 x.1.1.2.1 x.1.1.2.2.1 x.1.1.va.1 x.1.1.va.2.1 x.1.2.1
 |0=>dQ.zero
 |n+1=>C.agD (C.lU n)
def C.qK:S.qK.ok X0 λx=>bJ M.qK x.1.1 x.1.2.1:=dQ.lim C.lU
def M.agE{n:Nat}{d d1:Int}{d2:aA}{d3:au}{d4:Int}{l r:au}(h:M.lU n d d1 d2 d3 d4 l=some r):M.qK d d1 d2 d3 d4 l=some r:=dQ.zL C.lU (by intro a b h;simp[S.qK,rq,sg] at h;first|exact h|simp[Prod.ext_iff,h]) (x:=(((d,d1,d2,d3,d4,()),l,()),())) h
abbrev M.OE(d d1:Int)(d2:aA)(d3:au)(d4:Int)(k:au->Option R):=(M.qK d d1 d2 d3 d4 []).bind λa=>k a
def M.vS d d1 d2 d3 d4:=M.OE d d1 d2 d3 d4 some
def C.vS:=fTa S.vS (λx=>M.OE x.1.1.1 x.1.1.2.1 x.1.1.2.2.1 x.1.1.va.1 x.1.1.va.2.1) [fe C.qK]
def M.wZ(v12:au)(v13:Int)(s:Int×au)(kn:Int×au->Option R)(ke:Int×au->Option R):Option R:=match s with
 |(v14,x')=>bif decide (v14<v13) then((idx v12 v14).bind λa=>nC 5 a λa7s a7t a7u a7v aEe=>((M.BO a7s a7t a7u a7v aEe).bind λb=>M.EP.bind λc=>jH x' [qQ b,qQ c] 64 λd=>kn (i64.wrap (v14+1),d))) else ke (v14,x')
def M.CU v12 v13 s:=M.wZ v12 v13 s (λs=>some (Sum.inl s)) λt=>some (Sum.inr t)
def M.Hf v12 v13 s:=dU (M.CU v12 v13) s
def F.Hf:LE X0 16:=le 5 (Gj [bH 3 (pO 300000 0),bH 12 (pL false 5),bH 13 pI,bH 14 pI] [bH 300000 zbb]) (λx=>(x.1.va.1,x.2.1)) (λx s=>(((),x.1.2.1,x.1.2.2.1,s.1,()),(s.2,()))) (λx=> .leaf (Int×au) (λt=>(Ex.exit 0,⟨[(3,V.own 300000 0),(12,F9 5 x.1.2.1),(13,iQ x.1.2.2.1),(14,iQ t.1),(15,uX false)],[(300000,Cell.arr false false 0 5 t.2)]⟩))) (λx=>M.wZ x.1.2.1 x.1.2.2.1) [fe C.BO,fe C.EP] [] (by rintro _ _ ⟨_,_⟩ _ _<;>simp only[jH,qQ,nC,M.wZ,nb]<;>rfl)
abbrev M.Js(l:au)(k:au->Option R):=(M.zM l).bind λc=>cond (!c) (k []) ((M.wM l).bind λb=>(M.Hf (aG b.2.2.2.2) ((↑(aG b.2.2.2.2).length:Int)) (0,[])).bind λe=>(M.dY e.2).bind λa=>(M.vS a.1 a.2.1 a.2.2.1 (aG a.2.2.2.1) a.2.2.2.2).bind λd=>k d)
def M.qL l:=M.Js l some
def C.qL:=fTa S.qL (λx=>M.Js x.1.1) [fe C.zM,fe C.wM,fe C.dY,fe C.vS] [F.Hf]
abbrev M.xE(n':Int)(iO:aA)(k:Bool->Option R)(iM:au)(gq:Int):=cond (n'==1) ((M.strings_Contains iO [10]).bind λb=>cond (!b) (k ((↑iM.length:Int)==0)) (k false)) (cond (n'==2) (k ((↑iM.length:Int)==0)) (cond (n'==3) (k ((↑iM.length:Int)==0)) (cond (n'==4) ((M.bK gq 0 40).bind λa=>cond a (k ((↑iM.length:Int)==1)) (k false)) (cond (n'==5) (k ((↑iM.length:Int)==1)) (cond (n'==6) (k true) (k false))))))
def M.LY(n' gq:Int)(iO:aA)(iM:au)(k:Bool->Option R):=cond (n' !=4) (cond (gq !=0) (k false) (cond (n' !=1) (cond (!iO==[]) (k false) (M.xE n' iO k iM gq)) (M.xE n' iO k iM gq))) (cond (n' !=1) (cond (!iO==[]) (k false) (M.xE n' iO k iM gq)) (M.xE n' iO k iM gq))
def M.wP n' gq iO iM:=M.LY n' gq iO iM some
def C.wP:S.wP.ok X0 λx=>zbm M.wP x.1.1:=fnS (λx=>zbm M.LY x.1.1) [fe C.strings_Contains,fe C.bK] [] (by intros;unfold M.LY M.xE;exact zbn)
def M.yt(l:au)(i:Int)(v16:au)(v17 v18:Int)(x':au)(kR mY:Int)(rP:aA)(sD:au)(s:Int×Int)(kn:Int×Int->Option R)(ke:(Unit)⊕(Int×Int)->Option R):Option R:=match s with
 |(at',j)=>bif decide (j>=0) then(bif decide (at'<0) then(ke (.inl ())) else (idx sD j).bind λa=>(bM .i64 a 0).bind λd=>bif d !=at' then(ke (.inl ())) else (idx x' at').bind λe=>x'[at'.toNat]?.bind λb=>(bM .i64 b 0).bind λc=>kn (i64.wrap (c - 1),i64.wrap (j - 1))) else ke (.inr (at',j))
def M.EC l i v16 v17 v18 x' kR mY rP sD s:=M.yt l i v16 v17 v18 x' kR mY rP sD s (λs=>some (Sum.inl s)) λt=>some (Sum.inr t)
def M.sW l i v16 v17 v18 x' kR mY rP sD s:=dU (M.EC l i v16 v17 v18 x' kR mY rP sD) s
def F.sW:LE X0 85:=le 9 (Gj [bH 0 (pL false 4),bH 4 (pO 300000 0),bH 5 pI,bH 6 (pP 300001 0),bH 7 pI,bH 8 pI,bH 16 (pL false 4),bH 17 pI,bH 18 pI] [bH 300000 zaZ,bH 300001 (cB 93 zbj)]) (λx=>(x.1.va.2.1,x.1.va.2.2.1)) (λx s=>((x.1.1,(),x.1.2.2.1,(),s.1,s.2,x.1.va.va.1,x.1.va.va.2.1,x.1.wa.1,()),(x.2.1,(x.2.2.1.1,x.2.2.1.2.1,x.2.2.1.2.2.1,x.2.2.1.va.1,()),()))) (λx=> .sum (.leaf (Unit) (λt=>(Ex.ret,⟨[(2,V.nil 1),(3,uX false)],[]⟩))) (.leaf (Int×Int) (λt=>(Ex.exit 2,⟨[(0,F9 4 x.1.1),(4,V.own 300000 0),(5,iQ x.1.2.2.1),(6,V.ptr 300001 0),(7,iQ t.1),(8,iQ t.2),(16,F9 4 x.1.va.va.1),(17,iQ x.1.va.va.2.1),(18,iQ x.1.wa.1),(30,uX false)],[(300000,Cell.arr false true 0 1 x.2.1),(300001,Cell.box 93 [iQ x.2.2.1.1,iQ x.2.2.1.2.1,yG x.2.2.1.2.2.1,F9 1 x.2.2.1.va.1])]⟩)))) (λx=>zbm (M.yt x.1.1 x.1.2.2.1 x.1.va.va.1 x.1.va.va.2.1 x.1.wa.1 x.2.1) x.2.2.1) [] [] (by rintro _ _ ⟨_,_⟩ _ _<;>simp only[zbm,M.yt,nb]<;>rfl)
def M.yu(l v16:au)(v17:Int)(s:Int×au)(kn:Int×au->Option R)(ke:(Unit)⊕(Int×au)->Option R):Option R:=match s with
 |(v18,x')=>bif decide (v18<v17) then((idx v16 v18).bind λa=>(bM .i64 a 0).bind λh=>(bM .i64 a 1).bind λc=>(cStr a 2).bind λg=>(NP 1 a 3).bind λb=>(M.sW l v18 v16 v17 v18 x' h c g b (i64.wrap (v18 - 1),i64.wrap ((↑b.length:Int) - 1))).bind λi=>rO i (λk=>ke (.inl ())) λd=>letE d λe=>(idx x' v18).bind λj=>x'[v18.toNat]?.bind λf=>kn (i64.wrap (v18+1),x'.set v18.toNat (splice f 0 [D.int .i64 (i64.wrap (e.1+1))]))) else ke (.inr (v18,x'))
def M.ED l v16 v17 s:=M.yu l v16 v17 s (λs=>some (Sum.inl s)) λt=>some (Sum.inr t)
def M.sZ l v16 v17 s:=dU (M.ED l v16 v17) s
def F.sZ:LE X0 85:=le 5 (Gj [bH 0 (pL false 4),bH 4 (pO 300000 0),bH 16 (pL false 4),bH 17 pI,bH 18 pI] [bH 300000 zaZ]) (λx=>(x.1.va.2.1,x.2.1)) (λx s=>((x.1.1,(),x.1.2.2.1,x.1.va.1,s.1,()),(s.2,()))) (λx=> .sum (.leaf (Unit) (λt=>(Ex.ret,⟨[(2,V.nil 1),(3,uX false)],[]⟩))) (.leaf (Int×au) (λt=>(Ex.exit 0,⟨[(0,F9 4 x.1.1),(4,V.own 300000 0),(16,F9 4 x.1.2.2.1),(17,iQ x.1.va.1),(18,iQ t.1),(19,uX false)],[(300000,Cell.arr false true 0 1 t.2)]⟩)))) (λx=>M.yu x.1.1 x.1.2.2.1 x.1.va.1) [] [F.sW] (by rintro _ _ ⟨_,_⟩ _ _<;>simp only[M.yu,nb]<;>rfl)
abbrev M.Fq(l:au)(k:au×Bool->Option R):=(M.bK ((↑l.length:Int)) 1 4000).bind λc=>cond (!c) (k ([],false)) (cond (decide (0<=(↑l.length:Int)) && decide ((↑l.length:Int)<=(↑l.length:Int)) && decide ((↑l.length:Int) * 8<=140737488355328) && decide ((↑l.length:Int)<=140737488355328)) ((M.sZ l l ((↑l.length:Int)) (0,List.replicate (↑l.length:Int).toNat [D.int .i64 0])).bind λb=>rO b (λh=>k ([],false)) λe=>letE e λa=>(idx a.2 (i64.wrap ((↑l.length:Int) - 1))).bind λg=>(a.2[(i64.wrap ((↑l.length:Int) - 1)).toNat]?).bind λf=>(bM .i64 f 0).bind λd=>cond (ay a.2) (k (a.2,d==0)) none) none)
def M.qy l:=M.Fq l some
def C.qy:=fTa S.qy (λx=>M.Fq x.1.1) [fe C.bK] [F.sZ]
def M.Iq(l v7:au)(v8 s:Int)(kn:Int->Option R)(ke:(Unit)⊕(Int)->Option R):Option R:=match s with
 |v9=>bif decide (v9<v8) then((idx v7 v9).bind λa=>(bM .i64 a 0).bind λc=>(bM .i64 a 1).bind λf=>(cStr a 2).bind λb=>(NP 1 a 3).bind λe=>(M.wP c f b e).bind λd=>bif !d then(ke (.inl ())) else kn (i64.wrap (v9+1))) else ke (.inr v9)
def M.OG l v7 v8 s:=M.Iq l v7 v8 s (λs=>some (Sum.inl s)) λt=>some (Sum.inr t)
def M.IY l v7 v8 s:=dU (M.OG l v7 v8) s
def F.IY:LE X0 47:=le 2 (Gj [bH 0 (pL false 4),bH 7 (pL false 4),bH 8 pI,bH 9 pI] []) (λx=>x.1.va.1) (λx s=>((x.1.1,x.1.2.1,x.1.2.2.1,s,()),())) (λx=> .sum (.leaf (Unit) (λt=>(Ex.ret,⟨[(2,uX false)],[]⟩))) (.leaf (Int) (λt=>(Ex.exit 0,⟨[(0,F9 4 x.1.1),(7,F9 4 x.1.2.1),(8,iQ x.1.2.2.1),(9,iQ t),(10,uX false)],[]⟩)))) (λx=>M.Iq x.1.1 x.1.2.1 x.1.2.2.1) [fe C.wP] [] (by rintro _ _ _ _ _<;>simp only[M.Iq,nb]<;>rfl)
abbrev M.QJ(l:au)(k:Bool->Option R):=(M.IY l l ((↑l.length:Int)) 0).bind λb=>rO b (λd=>k false) λa=>letE a λe=>(M.qy l).bind λc=>k c.2
def M.D5 l:=M.QJ l some
def C.D5:=fTa S.D5 (λx=>M.QJ x.1.1) [fe C.qy] [F.IY]
def M.Ae(v6:au)(v7:Int)(s:Int×Int)(kn:Int×Int->Option R)(ke:Int×Int->Option R):Option R:=match s with
 |(count,v8)=>bif decide (v8<v7) then((idx v6 v8).bind λa=>(bM .i64 a 0).bind λb=>(bM .i64 a 1).bind λd=>(cStr a 2).bind λe=>(NP 1 a 3).bind λc=>bif b==5 then(kn (i64.wrap (count+1),i64.wrap (v8+1))) else kn (count,i64.wrap (v8+1))) else ke (count,v8)
def M.Hg v6 v7 s:=M.Ae v6 v7 s (λs=>some (Sum.inl s)) λt=>some (Sum.inr t)
def M.LZ v6 v7 s:=dU (M.Hg v6 v7) s
def F.LZ:LE X0 126:=le 3 (Gj [bH 3 pI,bH 6 (pL false 4),bH 7 pI,bH 8 pI] []) (λx=>(x.1.1,x.1.va.1)) (λx s=>((s.1,x.1.2.1,x.1.2.2.1,s.2,()),())) (λx=> .leaf (Int×Int) (λt=>(Ex.exit 0,⟨[(3,iQ t.1),(6,F9 4 x.1.2.1),(7,iQ x.1.2.2.1),(8,iQ t.2),(9,uX false)],[]⟩))) (λx=>M.Ae x.1.2.1 x.1.2.2.1) [] [] (by rintro _ _ ⟨_,_⟩ _ _<;>simp only[M.Ae,nb]<;>rfl)
abbrev M.OH(l:au)(k:Int->Option R):=(M.LZ l ((↑l.length:Int)) (0,0)).bind λa=>k a.1
def M.zf l:=M.OH l some
def C.zf:=fTa S.zf (λx=>M.OH x.1.1) [] [F.LZ]
end
end Go.Proofs.YtmeggnejljdlfaaGreatDoor
