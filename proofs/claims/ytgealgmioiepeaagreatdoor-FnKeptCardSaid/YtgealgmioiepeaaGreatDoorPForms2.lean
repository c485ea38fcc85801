import Derived.RangeFuncBox
import Derived.RangeFuncLeaves
import Derived.RangeFuncNested
import Derived.Shelf.Abstract
import Derived.Shelf.RegionOpen
import Derived.WalkKit
import Derived.OwnWalkIn
import Derived.TacticsInMore
import Derived.LoopNIn
import Derived.LoopIn
import Derived.Test.YtgealgmioiepeaaGreatDoorProg
import Derived.Test.YtgealgmioiepeaaGreatDoorVm4
import Derived.Lib.Bytealg
set_option linter.defProp false
set_option linter.unusedVariables false
set_option linter.unusedSimpArgs false
open Go.IntKind (i64)
namespace Go.Proofs.YtgealgmioiepeaaGreatDoor
open Go Go.Proofs Go.RowKit Go.Shelf
attribute [local go_sem] Oper.semAt_some
def awK(zs:List Int)(j:Nat):Int×Int:=((j:Int),zs[j]?.getD 0)
def bk(zs:List Int)(k:Nat):List (Int×Int):=(List.range k).map λt=>awK zs (zs.length - 1 - t)
def aBW(zs:List Int)(k:Nat):bk zs (k+1)=bk zs k++[awK zs (zs.length - 1 - k)]:=by simp[bk,List.range_succ]
def awL(zs:List Int)(k:Nat):(bk zs k).length=k:=by simp[bk]
def KpB(n₀ Bs:Nat)(W W':World):Prop:=Below n₀ W W'/\∀v,W.cell? ⟨Bs,0,none⟩=some v->W'.cell? ⟨Bs,0,none⟩=some v
def KpB.refl(n₀ Bs:Nat)(W:World):KpB n₀ Bs W W:=⟨Below.refl _ _,λ_ h=>h⟩
def KpB.trans{n₀ Bs:Nat}{A B C:World}(h:KpB n₀ Bs A B)(k:KpB n₀ Bs B C):KpB n₀ Bs A C:=⟨h.1.trans k.1,λv hv=>k.2 v (h.2 v hv)⟩
set_option maxRecDepth 100000 in
set_option maxHeartbeats 4000000 in
def ayA(F:Fence)(n:Nat)(h7:F.fn 167)(hro:F.round=none)(hn:1<=n)(l Bs n₀ b off cap:Nat)(zs:List Int)(hreach:zs.length * 8<=140737488351232)(hb:b<n₀)(J Jx:List (Int×Int)->World->Prop)
  (hY:∀pre x W,J pre W->pre.length<zs.length->YieldAt F (n - 1) Tryz.prog l #[.int .i64 x.1,.int .i64 x.2] W λe W'=>(e=.returned (.bool true)/\J (pre++[x]) W'/\KpB n₀ Bs W W')\/(e=.returned (.bool false)/\Jx (pre++[x]) W'))
  (W:World) (hBs:W.cell? ⟨Bs,0,none⟩=some (.slice (some ⟨b,off,none⟩) zs.length cap)) (hc:∀j,j<zs.length->W.cell? ⟨b,off+j,none⟩=some (.int .i64 (zs[j]?.getD 0))) (h0:J [] W):
  CallsIn F n Tryz.prog 167 #[.func (.yield l) #[] #[],.pointer (some ⟨Bs,0,none⟩)] W λe W'=>(∃v,e=.returned v)/\
   ((∃ys,ys=bk zs zs.length/\J ys W')\/(∃pre,(∃k,k<=zs.length/\pre=bk zs k)/\Jx pre W')):=by
 refine callsIn_of_wp Tryz.func167 rfl h7 ?_ hro;simp only[Tryz.ntmps167,List.size_toArray,List.length_cons,List.length_nil,Nat.reduceAdd,Nat.reduceSub,Array.replicate_succ,Array.replicate_zero,List.push_toArray,List.append_toArray,List.nil_append,List.cons_append]
 gi_wp2
 gi_loopw [3] (λi wr=>∃m k:Nat,k+m=zs.length/\i=.int .i64 ((m:Int) - 1)/\J (bk zs k) wr/\KpB n₀ Bs W wr)
  (λi _=>(intOf i+1).toNat)
 case atStart=>exact⟨zs.length,0,by omega,rfl,h0,KpB.refl _ _ _⟩
 case round=>
  obtain⟨m,k,hk,rfl,hJs,hnx⟩:=hrel;have a1v:=hnx.2 _ hBs;cases m with
  |zero=>
   obtain rfl:k=zs.length:=by omega
   gi_wp2
   go_end0
   exact⟨⟨_,rfl⟩,.inl ⟨_,rfl,hJs⟩⟩
  |succ j=>
   have hj:j<zs.length:=by omega
   have e1:(((j+1:Nat):Int) - 1)=(j:Int):=by omega
   simp only[e1];have hcx:wr.cell? ⟨b,off+j,none⟩=some (.int .i64 (zs[j]?.getD 0)):=(hnx.1.cell (p:=⟨b,off+j,none⟩) hb).trans (hc j hj);obtain⟨fn,tmps,assign,body,hy,hR⟩:=hY _ (awK zs j) wr hJs (by rw[awL];omega);dsimp only[awK] at hy;have ek:bk zs k++[awK zs j]=bk zs (k+1):=by rw[aBW];rw[show zs.length - 1 - k=j by omega]
   rw[ek] at hR;clear ek hY;generalize zs[j]?.getD 0=z at hy hcx
   gi_wp2
   refine hR.mono ?_;rintro e W3 (⟨rfl,hJ3,hk3⟩|⟨rfl,hJx3⟩)
   ·gi_wp2
    go_roundw
    case rel=>exact⟨j,k+1,by omega,rfl,hJ3,hnx.trans hk3⟩
    case measure=>simp[intOf]
   ·gi_wp2
    refine bodyPost_ret (results_none rfl _ _ _) rfl ?_;exact⟨⟨_,rfl⟩,.inr ⟨_,⟨k+1,by omega,rfl⟩,hJx3⟩⟩
set_option maxRecDepth 100000 in
set_option maxHeartbeats 1000000 in
def an6(F:Fence)(n:Nat)(h7:F.fn 167)(hro:F.round=none)(l Bs cap:Nat)(a:Option Addr)(J:List (Int×Int)->World->Prop)(W:World)(hBs:W.cell? ⟨Bs,0,none⟩=some (.slice a 0 cap))(h0:J [] W):
  CallsIn F n Tryz.prog 167 #[.func (.yield l) #[] #[],.pointer (some ⟨Bs,0,none⟩)] W λe W'=>(∃v,e=.returned v)/\J [] W':=by
 refine callsIn_of_wp Tryz.func167 rfl h7 ?_ hro;simp only[Tryz.ntmps167,List.size_toArray,List.length_cons,List.length_nil,Nat.reduceAdd,Nat.reduceSub,Array.replicate_succ,Array.replicate_zero,List.push_toArray,List.append_toArray,List.nil_append,List.cons_append]
 gi_wp2
 gi_loopw [3] (λi wr=>i=.int .i64 (-1)/\J [] wr) (λ_ _=>0)
 case atStart=>exact⟨rfl,h0⟩
 case round=>
  obtain⟨rfl,hJs⟩:=hrel
  gi_wp2
  go_end0
  exact⟨⟨_,rfl⟩,hJs⟩
set_option maxHeartbeats 1000000 in
def aBX(F:Fence)(n:Nat)(h5:F.fn 129)(hro:F.round=none)(a:Option Addr)(len cap:Nat)(w:World):
  CallsIn F n Tryz.prog 129 #[.slice a len cap] w λe w'=>e=.returned (.func (.func 167) #[] #[.pointer (some ⟨w.heap.size,0,none⟩)])/\w'=w.alloc (.cells #[.slice a len cap] 54):=by
 refine callsIn_of_wp Tryz.func129 rfl h5 ?_ hro;simp only[Tryz.ntmps129,List.size_toArray,List.length_cons,List.length_nil,Nat.reduceAdd,Nat.reduceSub,Array.replicate_succ,Array.replicate_zero,List.push_toArray,List.append_toArray,List.nil_append,List.cons_append]
 gi_wp2
 go_ret
 exact⟨rfl,rfl⟩
def aez(n₀:Nat)(W:World)(sv:Value)(zs:List Int):Prop:=
 ∃a cap,sv=.slice a zs.length cap/\(zs≠[]->∃b off,a=some ⟨b,off,none⟩/\b<n₀/\∀j,j<zs.length->W.cell? ⟨b,off+j,none⟩=some (.int .i64 (zs[j]?.getD 0)))
def aez.below{n₀:Nat}{A B:World}(h:Below n₀ A B){sv:Value}{zs:List Int}(q:aez n₀ A sv zs):aez n₀ B sv zs:=by obtain⟨a,cap,e,q⟩:=q;refine⟨a,cap,e,λhz=> ?_⟩;obtain⟨b,off,e2,hb,hc⟩:=q hz;exact⟨b,off,e2,hb,λj hj=>(h.cell (p:=⟨b,off+j,none⟩) hb).trans (hc j hj)⟩
def ath(F:Fence)(n:Nat)(h7:F.fn 167)(hro:F.round=none)(hn:1<=n)(Bs n₀:Nat)(sv:Value)(zs:List Int)(hreach:zs.length * 8<=140737488351232)(w:World)(hBs:Bs<w.heap.size)(hn₀:n₀<=w.heap.size)
  (hc:w.cell? ⟨Bs,0,none⟩=some sv) (hI:aez n₀ w sv zs):
  SeqStopsK F n Tryz.prog 167 #[.pointer (some ⟨Bs,0,none⟩)] (λx:Int×Int=>#[Value.int .i64 x.1,Value.int .i64 x.2]) (KpB n₀ Bs) (λys=>ys=bk zs zs.length)
   (λpre=>∃k,k<=zs.length/\pre=bk zs k) zs.length w:=λl J Jx W hW _ _ hY h0=>by
 have hc':=(hW.cell (p:=⟨Bs,0,none⟩) hBs).trans hc;obtain⟨a,cap,rfl,q⟩:=hI.below (hW.mono hn₀)
 by_cases hz:zs=[]
 ·subst hz;exact(an6 F n h7 hro l Bs cap a J W hc' h0).mono λe W' ⟨he,hj⟩=>⟨he,.inl ⟨_,rfl,hj⟩⟩
 ·obtain⟨b,off,rfl,hb,hcs⟩:=q hz;exact ayA F n h7 hro hn l Bs n₀ b off cap zs hreach hb J Jx hY W hc' hcs h0
def KpB.keeps{n₀ Bs:Nat}(W:World)(l:Nat)(o o':Obj)(hl:n₀<=l)(h:W.heap[l]? =some o)(h1:o.isCells=false)(h2:o.isWalk=false):KpB n₀ Bs W (W.putObj l o'):=by
 refine⟨(Below.refl n₀ W).trans ⟨rfl,rfl,rfl, ?_, ?_⟩, ?_⟩
 ·simp[World.putObj]
 ·intro k hk;exact World.putObj_heap_other (by omega)
 ·intro v hv
  by_cases hb:Bs=l
  ·subst hb;unfold World.cell? at hv;simp only[h] at hv;cases o<;>simp_all [Obj.isCells]
  ·rw[<-hv];exact World.cell?_of_block (World.putObj_heap_other hb)
end Go.Proofs.YtgealgmioiepeaaGreatDoor
namespace Go.Proofs.YtgealgmioiepeaaGreatDoor
open Go.Vm (gG iD uN)
open Go Go.Proofs Go.RowKit Go.Shelf
attribute [local go_sem] Oper.semAt_some
structure Nk where
 kind:Int
 op:Int
 text:ByteArray
 other:ByteArray
 kids:List Int
def ayB(n₀:Nat)(W:World)(b o:Nat)(n:Nk):Prop:=
 ∃sv,W.cell? ⟨b,o,none⟩=some (.int .i64 n.kind)/\W.cell? ⟨b,o+1,none⟩=some (.int .i64 n.op)/\W.cell? ⟨b,o+2,none⟩=some (.string n.text)/\W.cell? ⟨b,o+3,none⟩=some (.string n.other)/\W.cell? ⟨b,o+4,none⟩=some sv/\aez n₀ W sv n.kids
def auX(n₀:Nat)(W:World)(sv:Value)(l:List Nk):Prop:=
 ∃a cap,sv=.slice a l.length cap/\(l≠[]->∃b off,a=some ⟨b,off,none⟩/\b<n₀/\∀i n,l[i]? =some n->ayB n₀ W b (off+i * 5) n)
def amo(F:Fence)(n:Nat)(h5:F.fn 87)(hro:F.round=none)(x lo hi:Int)(w:World):
  CallsIn F n Tryz.prog 87 #[.int .i64 x,.int .i64 lo,.int .i64 hi] w λe w'=>e=.returned (.bool (decide (lo<=x) && decide (x<=hi)))/\w'=w:=by
 refine callsIn_of_wp Tryz.func87 rfl h5 ?_ hro;simp only[Tryz.ntmps87,List.size_toArray,List.length_cons,List.length_nil,Nat.reduceAdd,Nat.reduceSub,Array.replicate_succ,Array.replicate_zero,List.push_toArray,List.append_toArray,List.nil_append,List.cons_append]
 gi_wp2
 all_goals go_ret
 all_goals refine⟨?_,rfl⟩
 ·rename_i h;rw[decide_eq_true h,Bool.true_and];rfl
 ·rename_i h;rw[decide_eq_false (by omega),Bool.false_and];rfl
def ab6(st:List Int):Prop:=∀(j:Nat) x,st[j]? =some x->0<=x/\x<=j
def VN{st:List Int}(h:ab6 st)(j:Nat):0<=st[j]?.getD 0/\st[j]?.getD 0<=j:=by
 cases hj:st[j]? with
 |none=>simp
 |some x=>exact h j x hj
def Kw{st:List Int}(h:ab6 st):∀(ks:List Int) (a r:Int), -1<=a->a<st.length->gG st ks a=some r-> -1<=r/\r<st.length
 |[],a,r,h1,h2,e=>by rw[gG] at e;cases e;exact⟨h1,h2⟩
 |k::ks,a,r,h1,h2,e=>by
  rw[gG] at e;split at e
  ·cases e
  ·rename_i hc;have hk:=VN h k.toNat;exact Kw h ks _ r (by omega) (by omega) e
def aaq(st:List Int)(k:List Int):∀(ks:List Int) (a:Int),gG st (ks++k) a=(gG st ks a).bind λr=>gG st k r
 |[],a=>rfl
 |x::ks,a=>by
  rw[List.cons_append,gG,gG];split
  ·rfl
  ·exact aaq st k ks _
def Xv:∀(l l':List (List Int)) (st:List Int),iD st (l++l')=(iD st l).bind λs=>iD s l'
 |[],l',st=>rfl
 |n::l,l',st=>by
  rw[List.cons_append,iD,iD];cases gG st n.reverse ((st.length:Int) - 1) with
  |none=>rfl
  |some a=>exact Xv l l' _
def YT:∀(l:List (List Int)) (st r:List Int),iD st l=some r->r.length=st.length+l.length
 |[],st,r,h=>by rw[iD] at h;cases h;rfl
 |n::l,st,r,h=>by
  rw[iD] at h;split at h
  ·cases h
  ·have:=YT l _ r h;simp at this|-;omega
def X8{st:List Int}(h:ab6 st){a:Int}(h1: -1<=a)(h2:a<st.length):ab6 (st++[a+1]):=by
 intro j x hj;rw[List.getElem?_append] at hj;split at hj
 ·exact h j x hj
 ·rename_i hn;have:j - st.length=0:=by
   cases hd:j - st.length with
   |zero=>rfl
   |succ d=>rw[hd] at hj;simp at hj
  rw[this] at hj;simp at hj;omega
def agy:∀(l:List (List Int)) (st r:List Int),ab6 st->iD st l=some r->ab6 r
 |[],st,r,h0,h=>by rw[iD] at h;cases h;exact h0
 |n::l,st,r,h0,h=>by
  rw[iD] at h;split at h
  ·cases h
  ·rename_i a ha;have:=Kw h0 _ _ _ (by omega) (by omega) ha;exact agy l _ r (X8 h0 this.1 this.2) h
def X9:ab6 []:=λj x h=>by simp at h
def Xw(W:World)(a:Addr)(u:Value):W.grownBy (W.setCell a u) (some a.block):=
 ⟨rfl,rfl,rfl,by simp[World.setCell],λk _ hk=>Below.heap_setCell _ _ _ k (λe=>hk (by rw[e]))⟩
def Q9(len:Nat)(st:List Int):Array Value:=(st.map (Value.int .i64)++List.replicate (len - st.length) (Value.int .i64 0)).toArray
def aeA{len:Nat}{st:List Int}(h:st.length<=len):(Q9 len st).size=len:=by simp[Q9];omega
def agz{len:Nat}{st:List Int}{j:Nat}(h:j<len):(Q9 len st)[j]? =some (.int .i64 (st[j]?.getD 0)):=by
 simp only[Q9,List.getElem?_toArray];rw[List.getElem?_append];split
 ·rename_i hj;simp at hj;simp[hj]
 ·rename_i hj;simp at hj;rw[List.getElem?_replicate,if_pos (by simp;omega),List.getElem?_eq_none (by omega)];rfl
def awM{len:Nat}{st:List Int}(h:st.length<len)(x:Int):(Q9 len st).setIfInBounds st.length (.int .i64 x)=Q9 len (st++[x]):=by
 apply Array.ext
 ·simp[Q9];omega
 ·intro j h1 h2;apply Option.some.inj;rw[<-Array.getElem?_eq_getElem,<-Array.getElem?_eq_getElem];have hj:j<len:=by rw[Array.size_setIfInBounds,aeA (by omega)] at h1;exact h1
  rw[agz hj,Array.getElem?_setIfInBounds];split
  ·rename_i e;subst e;rw[if_pos (by rw[aeA (by omega)];exact h)];simp
  ·rename_i e;rw[agz hj,List.getElem?_append];split
   ·rfl
   ·rw[List.getElem?_eq_none (by omega),List.getElem?_eq_none (by simp;omega)]
structure H7(w:World)(len:Nat)(st:List Int)(W:World):Prop where
 b0:Boxed W w.heap.size 54 (.slice none 0 0)
 b1:Boxed W (w.heap.size+1) 4 (.bool false)
 b2:W.heap[w.heap.size+2]? =some (.cells (Q9 len st) 3 (0,0))
 b3:Boxed W (w.heap.size+3) 54 (.slice (some ⟨w.heap.size+2,0,none⟩) len len)
 bel:Below w.heap.size w W
def H7.grown{w:World}{len:Nat}{st:List Int}{A B:World}(h:H7 w len st A){row:Option Nat}(hg:A.grownBy B row)(hr:∀r,row=some r->w.heap.size+3<r):H7 w len st B:=by
 have ne:∀k,k<=w.heap.size+3->some k≠row:=λk hk e=>by have:=hr k e.symm;omega
 refine⟨h.b0.kept hg (ne _ (by omega)),h.b1.kept hg (ne _ (by omega)), ?_,h.b3.kept hg (ne _ (by omega)),h.bel.grown hg h.bel.size λk e=>by have:=hr k e;omega⟩;rw[hg.block _ (Array.getElem?_eq_some_iff.1 h.b2).1 (ne _ (by omega))];exact h.b2
def H7.alloc{w:World}{len:Nat}{st:List Int}{A:World}(h:H7 w len st A)(o:Obj):H7 w len st (A.alloc o):=h.grown (World.grownBy_alloc A o none) (λr e=>by cases e)
def H7.size{w:World}{len:Nat}{st:List Int}{A:World}(h:H7 w len st A):w.heap.size+3<A.heap.size:=h.b3.lt
def H7.set{w:World}{len:Nat}{st:List Int}{A:World}(h:H7 w len st A){b:Nat}(hb:w.heap.size+3<b)(u:Value):H7 w len st (A.setCell ⟨b,0,none⟩ u):=h.grown (Xw A _ u) (λr e=>by cases e;exact hb)
def H7.fail{w:World}{len:Nat}{st:List Int}{A:World}(h:H7 w len st A):H7 w len st ((A.setCell ⟨w.heap.size,0,none⟩ (.slice none 0 0)).setCell ⟨w.heap.size+1,0,none⟩ (.bool false)):=by refine⟨(h.b0.set _).other (by omega) _,(h.b1.other (by omega) _).set _, ?_,(h.b3.other (by omega) _).other (by omega) _,(h.bel.setCell (p:=⟨w.heap.size,0,none⟩) (Nat.le_refl _) _).setCell (p:=⟨w.heap.size+1,0,none⟩) (Nat.le_succ _) _⟩;rw[Below.heap_setCell _ _ _ _ (by simp),Below.heap_setCell _ _ _ _ (by simp)];exact h.b2
def H7.push{w:World}{len:Nat}{st:List Int}{A:World}(h:H7 w len st A)(hl:st.length<len)(x:Int):H7 w len (st++[x]) (A.setCell ⟨w.heap.size+2,st.length,none⟩ (.int .i64 x)):=by
 have hg:=Xw A ⟨w.heap.size+2,st.length,none⟩ (.int .i64 x);have ne:∀k,k≠w.heap.size+2->some k≠some (w.heap.size+2):=λk hk e=>hk (Option.some.inj e)
 refine⟨h.b0.kept hg (ne _ (by omega)),h.b1.kept hg (ne _ (by omega)), ?_,h.b3.kept hg (ne _ (by omega)),h.bel.setCell (p:=⟨w.heap.size+2,st.length,none⟩) (Nat.le_add_right _ _) _⟩;obtain⟨hlt,hk⟩:=Array.getElem?_eq_some_iff.1 h.b2;show(A.heap.modify (w.heap.size+2) _)[w.heap.size+2]? =_;rw[Array.getElem?_eq_getElem (by rw[Array.size_modify];exact hlt),Array.getElem_modify_self,hk];show some (Obj.cells (if(none:Option _).isSome then _ else _) _ _)=_;rw[if_neg (by simp),awM hl]
def H7.elem{w:World}{len:Nat}{st:List Int}{A:World}(h:H7 w len st A){j:Nat}(hj:j<len):A.cell? ⟨w.heap.size+2,j,none⟩=some (.int .i64 (st[j]?.getD 0)):=by simp only[World.cell?,h.b2];simp[agz hj]
def H7.ayC{w:World}{len:Nat}{st:List Int}{A:World}(h:H7 w len st A)(j:Nat):A.frozen? ⟨w.heap.size+2,j,none⟩=false:=by simp[World.frozen?,h.b2]
structure Marks(n:Nat)(ms:List Nat)(W:World):Prop where
 nd:ms.Nodup
 at_:∀D,D∈ms->n+3<D/\W.heap[D]? =some (.deferred (some []))
def Marks.grown{n:Nat}{ms:List Nat}{A B:World}(h:Marks n ms A){row:Option Nat}(hg:A.grownBy B row)(hr:∀r,row=some r->r ∉ ms):Marks n ms B:=by refine⟨h.nd,λD hD=>⟨(h.at_ D hD).1, ?_⟩⟩;rw[hg.block D (Array.getElem?_eq_some_iff.1 (h.at_ D hD).2).1 (λe=>hr D e.symm hD)];exact(h.at_ D hD).2
def Marks.lt{n:Nat}{ms:List Nat}{A:World}(h:Marks n ms A):∀D,D∈ms->D<A.heap.size:=λD hD=>(Array.getElem?_eq_some_iff.1 (h.at_ D hD).2).1
def Marks.alloc{n:Nat}{ms:List Nat}{A:World}(h:Marks n ms A)(o:Obj):Marks n ms (A.alloc o):=h.grown (World.grownBy_alloc A o none) (λr e=>by cases e)
def Marks.set{n:Nat}{ms:List Nat}{A:World}(h:Marks n ms A)(a:Addr)(u:Value){c:Array Value}{t:TypeId}{f:Nat×Nat}(ha:A.heap[a.block]? =some (.cells c t f)):Marks n ms (A.setCell a u):=
 h.grown (Xw A a u) (λr e hr=>by cases e;have:=(h.at_ _ hr).2;rw[ha] at this;cases this)
def ayD(D:Nat):Deferred:={target:=.collected D,args:=#[]}
set_option maxRecDepth 100000 in
def aBY(n:Nat)(hn:n<=400)(w:World):(Instr.makeSlice 54 (.int .i64 (n:Int)) (.int .i64 (n:Int))).run Tryz.prog w=.ok (.slice (some ⟨w.heap.size,0,none⟩) n n) (w.alloc (.cells (Q9 n []) 3)):=by
 obtain⟨i0,hi,hz0,hz1,hz2⟩:=info_parts (P:=Tryz.prog) (e:=3) (z:=.int .i64 0) (size:=1) (bytes:=8) (by kernel_rfl);rw[run_makeSlice w 54 3 i0 _ Tryz.underlying54 hi hz0 .i64 .i64 n n (by omega) (by omega) (by rw[hz1];simp;omega) (by rw[hz2];omega) (by omega)];simp only[Int.toNat_natCast];rw[hz1];congr 3;apply Array.ext
 ·simp[size_madeCells,Q9]
 ·intro j h1 h2;simp[madeCells,Q9,Value.cells,Nat.mod_one]
def YU{F:Fence}{n:Nat}{P:Program}{fn:Func}{tmps:Array Value}{R:Ending->World->Prop}{b:Nat}(K:World->Prop)(hK:∀W D,K W->b+3<D->K (W.putObj D (.deferred none)))
  (he:∀W,K W->LeavesIn F n P fn tmps R [] .returning W):∀(ms:List Nat) (W:World),K W->Marks b ms W->LeavesInM F n P fn tmps R (ms.map ayD) .returning W
 |[],W,k,_=>he W k
 |D::ms,W,k,h=>by
  obtain⟨h1,h2⟩:=h.at_ D List.mem_cons_self;refine⟨by simp,.inl ⟨D,_,rfl,run_takeDeferred h2, ?_⟩⟩;refine YU K hK he ms _ (hK W D k h1) ?_;have nd:=List.nodup_cons.1 h.nd;have h':Marks b ms W:=⟨nd.2,λd hd=>h.at_ d (List.mem_cons_of_mem _ hd)⟩
  exact h'.grown (grownBy_putObj' W D _) (λr e=>by cases e;exact nd.1)
end Go.Proofs.YtgealgmioiepeaaGreatDoor
namespace Go.Proofs.YtgealgmioiepeaaGreatDoor
open Go.Vm (gG iD uN)
open Go Go.Proofs Go.RowKit Go.Shelf
attribute [local go_sem] Oper.semAt_some
def agA(st:List Int)(pre:List Int)(a r k:Int)(h:gG st pre a=some r):gG st (pre++[k]) a=if r<0\/k≠r then none else some ((st[k.toNat]?.getD 0) - 1):=by rw[aaq,h];rfl
def Marks.fail{w:World}{len:Nat}{st:List Int}{ms:List Nat}{A:World}(hB:H7 w len st A)(h:Marks w.heap.size ms A):Marks w.heap.size ms ((A.setCell ⟨w.heap.size,0,none⟩ (.slice none 0 0)).setCell ⟨w.heap.size+1,0,none⟩ (.bool false)):=
 (h.set ⟨w.heap.size,0,none⟩ _ hB.b0).set ⟨w.heap.size+1,0,none⟩ _ (hB.b1.other (by omega) _)
def ayE(zs:List Int):(bk zs zs.length).map (λx:Int×Int=>x.2)=zs.reverse:=by
 apply List.ext_getElem
 ·simp[bk]
 ·intro i h1 h2;have hi:i<zs.length:=by simpa[bk] using h1
  simp[bk,awK];rw[List.getElem?_eq_getElem (by omega)];rfl
def awN(zs:List Int){k:Nat}(hk:k<=zs.length):∃r,bk zs zs.length=bk zs k++r:=by
 refine⟨(bk zs zs.length).drop k, ?_⟩;have h:bk zs k=(bk zs zs.length).take k:=by unfold bk;rw[<-List.map_take,List.take_range,Nat.min_eq_left hk]
 rw[h,List.take_append_drop]
def awO{st zs:List Int}{k:Nat}{a:Int}(hk:k<=zs.length)(h:gG st ((bk zs k).map (λx:Int×Int=>x.2)) a=none):gG st zs.reverse a=none:=by obtain⟨r,hr⟩:=awN zs hk;rw[<-ayE,hr,List.map_append,aaq,h];rfl
def apM{l:List Nk}{i:Nat}{nd:Nk}{st:List Int}(hnd:l[i]? =some nd)(hs:iD [] ((l.take i).map (·.kids))=some st)(h:gG st nd.kids.reverse ((st.length:Int) - 1)=none):iD [] (l.map (·.kids))=none:=by
 have hd:l.drop i=nd::l.drop (i+1):=by obtain⟨h1,h2⟩:=List.getElem?_eq_some_iff.1 hnd;rw[List.drop_eq_getElem_cons h1,h2]
 have e:l.map (·.kids)=(l.take i).map (·.kids)++(nd.kids::(l.drop (i+1)).map (·.kids)):=by rw[<-List.map_cons,<-hd,<-List.map_append,List.take_append_drop]
 rw[e,Xv,hs];show iD st (nd.kids::_)=none;rw[iD,h]
def ati(w:World)(l:List Nk)(e:Ending)(w':World):Prop:=
 Below w.heap.size w w'/\∃g bb,e=.returned (.tuple #[g,.bool bb])/\
  ((uN (l.map (·.kids))=none/\g=.slice none 0 0/\bb=false)\/
   ∃st,uN (l.map (·.kids))=some st/\g=.slice (some ⟨w.heap.size+2,0,none⟩) l.length l.length/\w'.heap[w.heap.size+2]? =some (.cells (Q9 l.length st) 3 (0,0))/\bb=(st[l.length - 1]?.getD 0==0))
def ayF{tmps:Array Value}{w W:World}{g:Value}{bb:Bool}(h2:tmps.getD 2 undef=.pointer (some ⟨w.heap.size,0,none⟩))(h3:tmps.getD 3 undef=.pointer (some ⟨w.heap.size+1,0,none⟩))
  (b0:Boxed W w.heap.size 54 g) (b1:Boxed W (w.heap.size+1) 4 (.bool bb)) (hg:∃a n c,g=.slice a n c):(results Tryz.f82 tmps).run Tryz.prog W=.ok (.tuple #[g,.bool bb]) W:=by
 obtain⟨a,n,c,rfl⟩:=hg;have c0:=b0.cell;have c1:=b1.cell;refine Vm.ahC (P:=Tryz.prog) (w:=W) (fn:=Tryz.f82) (tmps:=tmps) (gs:=[.slice a n c,.bool bb]) ?_ rfl;intro i x hx;have hr:Tryz.f82.results.toList=[.cell 2 54,.cell 3 4]:=rfl;rw[hr] at hx
 match i,hx with
 |0,hx=>cases hx;refine⟨_,rfl, ?_⟩;simp only[Vm.anQ,h2];simp[go_sem,c0]
 |1,hx=>cases hx;refine⟨_,rfl, ?_⟩;simp only[Vm.anQ,h3];simp[go_sem,c1]
 |i+2,hx=>simp at hx
set_option maxRecDepth 100000 in
set_option maxHeartbeats 4000000 in
def awP(w:World)(a:Option Addr)(cap:Nat)(l:List Nk)(hl:l.length<=140737488351232)(hkl:∀n,n∈l->n.kids.length * 8<=140737488351232)(hN:auX w.heap.size w (.slice a l.length cap) l):
  CallsIn Fence.wide 9 Tryz.prog 82 #[.slice a l.length cap] w λe w'=>ati w l e w':=by
 refine callsIn_of_wp_marks Tryz.func82 rfl trivial ?_ rfl;simp only[Tryz.ntmps82,List.size_toArray,List.length_cons,List.length_nil,Nat.reduceAdd,Nat.reduceSub,Array.replicate_succ,Array.replicate_zero,List.push_toArray,List.append_toArray,List.nil_append,List.cons_append]
 by_cases hb:(decide (1<=(l.length:Int)) && decide ((l.length:Int)<=400))=true
 ·have hmk:=λW=>aBY l.length (by simp at hb;omega) W
  gi_wp2_with (refine⟨trivial, ?_⟩;gi_at_call 87;refine(amo Fence.wide _ trivial rfl _ _ _ _).mono ?_;rintro e w' ⟨rfl,rfl⟩;rw[hb])
  refine wpIn_loop (λa' W=>∃(U:Nat->Value) (i:Nat) (st:List Int) (ms:List Nat),i<=l.length/\iD [] ((l.take i).map (·.kids))=some st/\st.length=i/\H7 w l.length st W/\Marks w.heap.size ms W/\
   a'={tmps:=#[.slice a l.length cap,undef,.pointer (some ⟨w.heap.size,0,none⟩),.pointer (some ⟨w.heap.size+1,0,none⟩),.pointer (some ⟨w.heap.size+3,0,none⟩),U 5,U 6,U 7,undef,U 9,.slice a l.length cap,.int .i64 (l.length:Int),.bool true,.bool false,.slice a l.length cap,.int .i64 (l.length:Int),.slice (some ⟨w.heap.size+2,0,none⟩) l.length l.length,.slice a l.length cap,.int .i64 (l.length:Int),.int .i64 (i:Int),U 20,U 21,U 22,U 23,U 24,U 25,U 26,U 27,U 28,U 29,U 30,U 31,U 32,U 33,U 34,U 35,U 36,U 37,U 38,U 39,U 40,U 41,U 42,U 43,U 44,U 45,U 46,U 47,U 48,U 49,U 50,U 51,U 52,U 53,U 54,U 55,U 56],defers:=ms.map ayD}) (λa' _=>((l.length:Int) - intOf (a'.tmps.getD 19 undef)).toNat) ?start ?round
  case start=>
   refine⟨λ_=>undef,0,[],[],Nat.zero_le _,by simp[iD],rfl, ?_,⟨List.nodup_nil,λD h=>by cases h⟩, ?_⟩
   ·have g0:=Boxed.new w 54 (.slice none 0 0);have g1:=Boxed.new (w.alloc (.cells #[.slice none 0 0] 54)) 4 (.bool false);have g2:=World.alloc_heap_new ((w.alloc (.cells #[.slice none 0 0] 54)).alloc (.cells #[.bool false] 4)) (.cells (Q9 l.length []) 3);have g3:=Boxed.new (((w.alloc (.cells #[.slice none 0 0] 54)).alloc (.cells #[.bool false] 4)).alloc (.cells (Q9 l.length []) 3)) 54 (.slice (some ⟨w.heap.size+2,0,none⟩) l.length l.length);simp only[World.size_alloc] at g1 g2 g3;refine⟨((g0.alloc _).alloc _).alloc _,(g1.alloc _).alloc _, ?_,g3, ?_⟩
    ·rw[Below.heap_alloc _ _ _ (by simp)];exact g2
    ·exact((((Below.refl _ w).alloc (Nat.le_refl _) _).alloc (by simp) _).alloc (by simp;omega) _).alloc (by simp;omega) _
   ·rfl
  case round=>
   rintro a' W ⟨U,i,st,ms,hi,hs,hsl,hB,hM,rfl⟩;have hst:=agy _ _ _ X9 hs
   by_cases hlt:i<l.length
   ·obtain⟨a0,cap0,ea,hN'⟩:=hN;have hne:l≠[]:=by intro e;subst e;simp at hlt
    obtain⟨b,off,e1,hbn,hnodes⟩:=hN' hne;cases ea;subst e1;clear hN';obtain⟨nd,hnd⟩:∃nd,l[i]? =some nd:=⟨l[i],by simp[hlt]⟩
    have hkn:=hkl nd (List.mem_of_getElem? hnd);obtain⟨sv,h0,h1,h2,h3,h4,hk⟩:=hnodes i nd hnd;have hkW:=hk.below hB.bel;have c0:W.cell? ⟨b,off+i * 5,none⟩=some (.int .i64 nd.kind):=(hB.bel.cell (p:=⟨b,off+i * 5,none⟩) hbn).trans h0;have c1:W.cell? ⟨b,off+i * 5+1,none⟩=some (.int .i64 nd.op):=(hB.bel.cell (p:=⟨b,off+i * 5+1,none⟩) hbn).trans h1;have c2:W.cell? ⟨b,off+i * 5+2,none⟩=some (.string nd.text):=(hB.bel.cell (p:=⟨b,off+i * 5+2,none⟩) hbn).trans h2;have c3:W.cell? ⟨b,off+i * 5+3,none⟩=some (.string nd.other):=(hB.bel.cell (p:=⟨b,off+i * 5+3,none⟩) hbn).trans h3;have c4:W.cell? ⟨b,off+i * 5+4,none⟩=some sv:=(hB.bel.cell (p:=⟨b,off+i * 5+4,none⟩) hbn).trans h4;obtain⟨ka,kc,esv,hkc⟩:=hk;subst esv;clear hnodes h0 h1 h2 h3 h4 hkc
    gi_wp2_with (refine⟨trivial, ?_⟩;gi_at_call 129;refine(aBX Fence.wide _ trivial rfl _ _ _ _).mono ?_;rintro e w' ⟨rfl,rfl⟩)
    clear c0 c1 c2 c3 c4;obtain⟨o1,ho1⟩:∃o,o=Obj.cells #[Value.int .i64 nd.kind,.int .i64 nd.op,.string nd.text,.string nd.other,.slice ka nd.kids.length kc] 56:=⟨_,rfl⟩
    rw[<-ho1];have hsz:=hB.size;have bA:=(Boxed.new (W.alloc o1) 3 (.int .i64 ((i:Int) - 1))).alloc (.cells #[.slice ka nd.kids.length kc] 54);have bS:=Boxed.new ((W.alloc o1).alloc (.cells #[.int .i64 ((i:Int) - 1)] 3)) 54 (.slice ka nd.kids.length kc);have hB1:=((hB.alloc o1).alloc (.cells #[.int .i64 ((i:Int) - 1)] 3)).alloc (.cells #[.slice ka nd.kids.length kc] 54);have hM1:=((hM.alloc o1).alloc (.cells #[.int .i64 ((i:Int) - 1)] 3)).alloc (.cells #[.slice ka nd.kids.length kc] 54);obtain⟨WL,hWL⟩:∃WL,WL=((W.alloc o1).alloc (.cells #[.int .i64 ((i:Int) - 1)] 3)).alloc (.cells #[.slice ka nd.kids.length kc] 54):=⟨_,rfl⟩
    rw[<-hWL] at bA bS hB1 hM1|-;simp only[World.size_alloc] at bA bS;have hWs:WL.heap.size=W.heap.size+3:=by rw[hWL];simp
    have aTD:aez w.heap.size WL (.slice ka nd.kids.length kc) nd.kids:=hkW.below (by rw[hWL];exact(((Below.refl _ W).alloc (by omega) _).alloc (by simp;omega) _).alloc (by simp;omega) _);clear hWL ho1 hkW;have aBZ:=hM.lt;refine wpIn_rangeFunc_ownG rfl (by decide) (gf:=167) (lb:=#[.pointer (some ⟨W.heap.size+1+1,0,none⟩)]) rfl trivial (enters_of Tryz.func167 (by kernel_rfl) rfl)
     (ath Fence.wide 8 trivial rfl (by decide) (W.heap.size+1+1) w.heap.size _ nd.kids hkn WL (by omega) (by omega) bS.cell aTD)
     (λh k=>h.trans k) (λW' k o o' hk h h1 h2=>KpB.keeps W' k o o' (by omega) h h1 h2) (Below.refl _ _) (λ_=>rfl)
     (λpre WX=>H7 w l.length st WX/\Marks w.heap.size ms WX/\∃at_,gG st (pre.map (·.2)) ((i:Int) - 1)=some at_/\Boxed WX (W.heap.size+1) 3 (.int .i64 at_))
     (λc pre WX=>c=.ret/\H7 w l.length st WX/\Marks w.heap.size ms WX/\gG st (pre.map (·.2)) ((i:Int) - 1)=none)
     (by rintro s A B row ⟨q1,q2,at_,q3,q4⟩ hg hr;refine⟨q1.grown hg (λr e=>by have:=(hr r e).1;omega),q2.grown hg (λr e hm=>by have:=(hr r e).1;have:=aBZ r hm;omega),at_,q3,q4.kept hg (λe=>by have:=(hr _ e.symm).1;omega)⟩)
     (by rintro c s A B row ⟨q0,q1,q2,q3⟩ hg hr;exact⟨q0,q1.grown hg (λr e=>by have:=(hr r e).1;omega),q2.grown hg (λr e hm=>by have:=(hr r e).1;have:=aBZ r hm;omega),q3⟩)
     ⟨hB1,hM1,_,rfl,bA⟩
     (λx=>{tmps:=#[.slice (some ⟨b,off,none⟩) l.length cap,undef,.pointer (some ⟨w.heap.size,0,none⟩),.pointer (some ⟨w.heap.size+1,0,none⟩),.pointer (some ⟨w.heap.size+3,0,none⟩),.int .i64 (i:Int),.pointer (some ⟨W.heap.size,0,none⟩),.pointer (some ⟨W.heap.size+1,0,none⟩),undef,.int .i64 x.2,.slice (some ⟨b,off,none⟩) l.length cap,.int .i64 (l.length:Int),.bool true,.bool false,.slice (some ⟨b,off,none⟩) l.length cap,.int .i64 (l.length:Int),.slice (some ⟨w.heap.size+2,0,none⟩) l.length l.length,.slice (some ⟨b,off,none⟩) l.length cap,.int .i64 (l.length:Int),.int .i64 (i:Int),.bool true,.int .i64 (i:Int),.pointer (some ⟨b,off+i * 5,none⟩),.agg #[.int .i64 nd.kind,.int .i64 nd.op,.string nd.text,.string nd.other,.slice ka nd.kids.length kc],.int .i64 (i:Int),.int .i64 ((i:Int) - 1),.pointer (some ⟨W.heap.size,4,none⟩),.slice ka nd.kids.length kc,.func (.func 167) #[] #[.pointer (some ⟨W.heap.size+1+1,0,none⟩)],.int .i64 x.1,.int .i64 x.2,U 31,U 32,U 33,U 34,U 35,U 36,U 37,U 38,U 39,U 40,U 41,U 42,U 43,U 44,U 45,U 46,U 47,U 48,U 49,U 50,U 51,U 52,U 53,U 54,U 55,U 56],defers:=[]}) ?assign ?body ?done ?stop
    case assign=>
     intro l' x WX K hK
     gi_wp2
     exact hK
    case body=>
     rintro l' pre x WX ⟨q1,q2,at_,q3,q4⟩ _;have hr:=Kw hst _ _ _ (by omega) (by omega) q3;have d4:=q4.cell;have d4f:=q4.frozen;have d3:=q1.b3.cell;have d0:=q1.b0.cell;have d0f:=q1.b0.frozen;have d1:=q1.b1.cell;have d1f:=q1.b1.frozen
     by_cases hneg:at_<0
     ·gi_wp2
      exact⟨((KeepsOthers.setCell _ _ _).trans (KeepsOthers.setCell _ _ _)).from _,rfl,q1.fail,Marks.fail q1 q2,by simp only[List.map_append,List.map_cons,List.map_nil];rw[agA st _ _ _ x.2 q3,if_pos (.inl hneg)]⟩
     ·obtain⟨j,rfl⟩:∃j:Nat,at_=(j:Int):=⟨at_.toNat,by omega⟩
      by_cases hke:x.2=(j:Int)
      ·have hz:=VN hst j;have de:=q1.elem (j:=j) (by omega);have def_:=q1.ayC j;have hsn:=agA st (pre.map (·.2)) _ _ x.2 q3;rw[hke] at hsn;simp only[Int.toNat_natCast] at hsn;generalize st[j]?.getD 0=z at hz de hsn
       gi_wp2
       refine⟨(KeepsOthers.setCell _ _ _).from _,⟨(Below.refl _ _).setCell (p:=⟨W.heap.size+1,0,none⟩) (by show w.heap.size<=W.heap.size+1;omega) _,λv hv=> ?_⟩,q1.set (by omega) _,q2.set _ _ q4,z - 1, ?_,q4.set _⟩
       ·rw[<-hv];exact World.cell?_of_block (Below.heap_setCell _ _ _ _ (by show W.heap.size+1+1≠W.heap.size+1;omega))
       ·simp only[List.map_append,List.map_cons,List.map_nil];rw[hke,hsn,if_neg (by omega)]
      ·gi_wp2
       exact⟨((KeepsOthers.setCell _ _ _).trans (KeepsOthers.setCell _ _ _)).from _,rfl,q1.fail,Marks.fail q1 q2,by simp only[List.map_append,List.map_cons,List.map_nil];rw[agA st _ _ _ x.2 q3,if_pos (.inr hke)]⟩
    case done=>
     rintro D xs WX hD rfl ⟨q1,q2,at_,q3,q4⟩ hK;have hr:=Kw hst _ _ _ (by omega) (by omega) q3;have d3:=q1.b3.cell;have d4:=q4.cell;have de:=q1.elem (j:=i) (by omega);have def_:=q1.ayC i;generalize st[i]?.getD 0=z at de
     gi_wp2
     have ei:((i:Int)+1)=((i+1:Nat):Int):=by omega
     rw[ei];have hx:(List.map (λx:Int×Int=>x.2) (bk nd.kids nd.kids.length))=nd.kids.reverse:=ayE _;rw[hx] at q3;have hcells:=q1.b2;refine⟨⟨λk=>#[Value.slice (some ⟨b,off,none⟩) l.length cap,undef,Value.pointer (some ⟨w.heap.size,0,none⟩),Value.pointer (some ⟨w.heap.size+1,0,none⟩),Value.pointer (some ⟨w.heap.size+3,0,none⟩),Value.int .i64 (i:Int),Value.pointer (some ⟨W.heap.size,0,none⟩),Value.pointer (some ⟨W.heap.size+1,0,none⟩),undef,U 9,Value.slice (some ⟨b,off,none⟩) l.length cap,Value.int .i64 (l.length:Int),Value.bool true,Value.bool false,Value.slice (some ⟨b,off,none⟩) l.length cap,Value.int .i64 (l.length:Int),Value.slice (some ⟨w.heap.size+2,0,none⟩) l.length l.length,Value.slice (some ⟨b,off,none⟩) l.length cap,Value.int .i64 (l.length:Int),Value.int .i64 ((i+1:Nat):Int),Value.bool true,Value.int .i64 (i:Int),Value.pointer (some ⟨b,off+i * 5,none⟩),Value.agg #[.int .i64 nd.kind,.int .i64 nd.op,.string nd.text,.string nd.other,.slice ka nd.kids.length kc],Value.int .i64 (i:Int),Value.int .i64 ((i:Int) - 1),Value.pointer (some ⟨W.heap.size,4,none⟩),Value.slice ka nd.kids.length kc,Value.func (.func 167) #[] #[.pointer (some ⟨W.heap.size+1+1,0,none⟩)],U 29,U 30,U 31,U 32,U 33,U 34,U 35,U 36,U 37,U 38,U 39,U 40,U 41,U 42,Value.slice (some ⟨w.heap.size+2,0,none⟩) l.length l.length,Value.int .i64 (i:Int),Value.int .i64 at_,Value.int .i64 (at_+1),Value.pointer (some ⟨w.heap.size+2,i,none⟩),Value.int .i64 ((i+1:Nat):Int),U 49,U 50,U 51,U 52,U 53,U 54,U 55,U 56].getD k undef,i+1,st++[at_+1],D::ms,hlt, ?_,by simp[hsl], ?_, ?_,rfl⟩, ?_⟩
     ·rw[List.take_add_one,hnd,Option.toList_some,List.map_append,Xv,hs];show iD st [nd.kids]=_;rw[iD,hsl,q3];rfl
     ·rw[<-hsl];exact q1.push (by omega) _
     ·refine⟨List.nodup_cons.2 ⟨λhm=>by have:=aBZ D hm;omega,q2.nd⟩,λd hd=> ?_⟩;have hset:=q2.set ⟨w.heap.size+2,i,none⟩ (.int .i64 (at_+1)) q1.b2;rcases List.mem_cons.1 hd with rfl|hd
      ·refine⟨by omega, ?_⟩;rw[Below.heap_setCell _ _ _ _ (by show d≠w.heap.size+2;omega)];exact hK
      ·exact hset.at_ d hd
     ·simp[intOf];omega
    case stop=>
     rintro D c pre WX hD ⟨k,hkz,rfl⟩ ⟨rfl,q1,q2,q3⟩ hK
     gi_wp2
     have hM2:Marks w.heap.size (D::ms) WX:=⟨List.nodup_cons.2 ⟨λhm=>by have:=aBZ D hm;omega,q2.nd⟩,λd hd=>by
      rcases List.mem_cons.1 hd with rfl|hd
      ·exact⟨by omega,hK⟩
      ·exact q2.at_ d hd⟩
     refine YU (b:=w.heap.size) (λW'=>H7 w l.length st W') (λW' d h hd=>h.grown (grownBy_putObj' W' d _) (λr e=>by cases e;exact hd)) ?_ (D::ms) WX q1 hM2;intro W' q;refine⟨_,ayF (w:=w) rfl rfl q.b0 q.b1 ⟨none,0,0,rfl⟩,q.bel,_,_,rfl,.inl ⟨?_,rfl,rfl⟩⟩;simp at hb;rw[uN,if_pos (by simp;omega)];exact apM hnd hs (by rw[hsl];exact awO hkz q3)
   ·obtain rfl:i=l.length:=by omega
    simp at hb;have d3:=hB.b3.cell;have d0:=hB.b0.cell;have d0f:=hB.b0.frozen;have d1:=hB.b1.cell;have d1f:=hB.b1.frozen;have de:=hB.elem (j:=l.length - 1) (by omega);have def_:=hB.ayC (l.length - 1);generalize hz:st[l.length - 1]?.getD 0=z at de
    gi_wp2
    gi_region
    all_goals gi_wp2
    have k0:Boxed ((W.setCell ⟨w.heap.size,0,none⟩ (.slice (some ⟨w.heap.size+2,0,none⟩) l.length l.length)).setCell ⟨w.heap.size+1,0,none⟩ (.bool (z==0))).drew w.heap.size 54 (.slice (some ⟨w.heap.size+2,0,none⟩) l.length l.length):=(hB.b0.set _).other (by omega) _;have k1:Boxed ((W.setCell ⟨w.heap.size,0,none⟩ (.slice (some ⟨w.heap.size+2,0,none⟩) l.length l.length)).setCell ⟨w.heap.size+1,0,none⟩ (.bool (z==0))).drew (w.heap.size+1) 4 (.bool (z==0)):=(hB.b1.other (by omega) _).set _;have k2:((W.setCell ⟨w.heap.size,0,none⟩ (.slice (some ⟨w.heap.size+2,0,none⟩) l.length l.length)).setCell ⟨w.heap.size+1,0,none⟩ (.bool (z==0))).drew.heap[w.heap.size+2]? =some (.cells (Q9 l.length st) 3 (0,0)):=by show((W.setCell _ _).setCell _ _).heap[w.heap.size+2]? =_;rw[Below.heap_setCell _ _ _ _ (by simp),Below.heap_setCell _ _ _ _ (by simp)];exact hB.b2
    have k3:Below w.heap.size w ((W.setCell ⟨w.heap.size,0,none⟩ (.slice (some ⟨w.heap.size+2,0,none⟩) l.length l.length)).setCell ⟨w.heap.size+1,0,none⟩ (.bool (z==0))).drew:=
     ((hB.bel.setCell (p:=⟨w.heap.size,0,none⟩) (Nat.le_refl _) _).setCell (p:=⟨w.heap.size+1,0,none⟩) (Nat.le_succ _) _).drew
    have hM2:Marks w.heap.size ms ((W.setCell ⟨w.heap.size,0,none⟩ (.slice (some ⟨w.heap.size+2,0,none⟩) l.length l.length)).setCell ⟨w.heap.size+1,0,none⟩ (.bool (z==0))).drew:=
     have h:=(hM.set ⟨w.heap.size,0,none⟩ (.slice (some ⟨w.heap.size+2,0,none⟩) l.length l.length) hB.b0).set ⟨w.heap.size+1,0,none⟩ (.bool (z==0)) (hB.b1.other (by omega) _)
     ⟨h.nd,h.at_⟩
    refine YU (b:=w.heap.size) (λW'=>Boxed W' w.heap.size 54 (.slice (some ⟨w.heap.size+2,0,none⟩) l.length l.length)/\Boxed W' (w.heap.size+1) 4 (.bool (z==0))/\W'.heap[w.heap.size+2]? =some (.cells (Q9 l.length st) 3 (0,0))/\Below w.heap.size w W')
     (λW' d h hd=> ?_) ?_ ms _ ⟨k0,k1,k2,k3⟩ hM2
    ·obtain⟨h0,h1,h2,h3⟩:=h;have hg:=grownBy_putObj' W' d (.deferred none);refine⟨h0.kept hg (λe=>by cases e;omega),h1.kept hg (λe=>by cases e;omega), ?_,h3.grown hg h3.size (λk e=>by cases e;omega)⟩;rw[hg.block _ (Array.getElem?_eq_some_iff.1 h2).1 (λe=>by cases e;omega)];exact h2
    ·rintro W' ⟨h0,h1,h2,h3⟩;refine⟨_,ayF (w:=w) rfl rfl h0 h1 ⟨_,_,_,rfl⟩,h3,_,_,rfl,.inr ⟨st, ?_,rfl,h2,by rw[hz]⟩⟩;rw[uN,if_pos (by simp;omega)];rw[List.take_length] at hs;exact hs
 ·have hb':(decide (1<=(l.length:Int)) && decide ((l.length:Int)<=400))=false:=by simpa using hb
  gi_wp2_with (refine⟨trivial, ?_⟩;gi_at_call 87;refine(amo Fence.wide _ trivial rfl _ _ _ _).mono ?_;rintro e w' ⟨rfl,rfl⟩;rw[hb'])
  have g0:=(Boxed.new w 54 (.slice none 0 0)).alloc (.cells #[.bool false] 4);have g1:=Boxed.new (w.alloc (.cells #[.slice none 0 0] 54)) 4 (.bool false);simp only[World.size_alloc] at g1;refine⟨_,ayF (w:=w) rfl rfl g0 g1 ⟨none,0,0,rfl⟩,((Below.refl _ w).alloc (Nat.le_refl _) _).alloc (by simp) _,_,_,rfl,.inl ⟨?_,rfl,rfl⟩⟩;rw[uN,if_neg];intro h;simp at hb h;omega
end Go.Proofs.YtgealgmioiepeaaGreatDoor
namespace Go.Proofs.YtgealgmioiepeaaGreatDoor
set_option maxRecDepth 100000
open Go.Vm (gG iD uN)
open Go Go.Vm Go.Proofs Go.RowKit
def an7:ak->Option (List Int)
 |[]=>some []
 |r::rs=>match r with
  |[.int .i64 x]=>(an7 rs).map (x:: ·)
  |_=>none
def atj:Row->Option Nk
 |[.int .i64 k,.int .i64 op,.str t,.str u,.sl _ 1 kids]=>(an7 kids).bind λks=>if ks.length<=1048576 then some ⟨k,op,⟨⟨t⟩⟩,⟨⟨u⟩⟩,ks⟩ else none
 |_=>none
def aar:ak->Option (List Nk)
 |[]=>some []
 |r::rs=>(atj r).bind λk=>(aar rs).map (k:: ·)
def Ya(l:List Int):ak:=l.map λx=>[.int .i64 x]
def M.lG(rows:ak):Option (ak×Bool):=(aar rows).bind λl=>if l.length<=1048576 then
 (match uN (l.map (·.kids)) with
  |none=>some ([],false)
  |some st=>some (Ya st,st[l.length - 1]?.getD 0==0)) else none
def Prim.lG(a:List V)(c:List Cell):Option (ak×List Cell):=match a,c with
 |[.d (.sl _ 5 rows)],[]=>(M.lG rows).map λr=>([[.sl true 1 r.1],[.bool r.2]],[])
 |_,_=>none
def apN:∀(rs:ak) (l:List Int),an7 rs=some l->rs=Ya l
 |[],l,h=>by simp only[an7,kU] at h;subst h;rfl
 |r::rs,l,h=>by
  unfold an7 at h;split at h
  ·cases hd:an7 rs with
   |none=>rw[hd] at h;cases h
   |some l'=>rw[hd] at h;cases h;rw[apN rs l' hd];rfl
  ·cases h
def apO{r:Row}{n:Nk}(h:atj r=some n):∃t u own,n.text=⟨⟨t⟩⟩/\n.other=⟨⟨u⟩⟩/\n.kids.length<=1048576/\r=[.int .i64 n.kind,.int .i64 n.op,.str t,.str u,.sl own 1 (Ya n.kids)]:=by
 unfold atj at h;split at h
 ·rename_i k op t u own' kids;cases hk:an7 kids with
  |none=>rw[hk] at h;cases h
  |some ks=>
   rw[hk,ah] at h;split at h
   ·cases h;obtain rfl:=apN kids ks hk;exact⟨t,u,own',rfl,rfl,by assumption,rfl⟩
   ·cases h
 ·cases h
def agB:∀(rs:ak) (l:List Nk),aar rs=some l->rs.length=l.length/\∀(i:Nat) n,l[i]? =some n->∃r,rs[i]? =some r/\atj r=some n
 |[],l,h=>by simp only[aar,kU] at h;subst h;exact⟨rfl,λi n hn=>by simp at hn⟩
 |r::rs,l,h=>by
  rw[aar] at h;cases hd:atj r with
  |none=>rw[hd] at h;cases h
  |some k=>
   rw[hd,ah] at h;cases hds:aar rs with
   |none=>rw[hds] at h;cases h
   |some l'=>
    rw[hds] at h;cases h;obtain⟨h1,h2⟩:=agB rs l' hds;refine⟨by simp[h1],λi n hn=> ?_⟩;cases i with
    |zero=>simp only[List.getElem?_cons_zero,kU] at hn;subst hn;exact⟨r,rfl,hd⟩
    |succ i=>simp only[List.getElem?_cons_succ] at hn|-;exact h2 i n hn
def OH{h:View}{s:Nat}:∀{rs:ak} {b o i:Nat} {r:Row},sN h s rs b o->rs[i]? =some r->r.length=s/\BO h r b (o+i * s)
 |[],b,o,i,r,q,hi=>by simp at hi
 |r'::rs,b,o,i,r,q,hi=>by
  simp only[sN] at q;cases i with
  |zero=>simp only[List.getElem?_cons_zero,kU] at hi;subst hi;simp only[Nat.zero_mul,Nat.add_zero];exact⟨q.1,q.2.1⟩
  |succ i=>simp only[List.getElem?_cons_succ] at hi;obtain⟨h1,h2⟩:=OH q.2.2 hi;refine⟨h1, ?_⟩;rw[show o+(i+1) * s=o+s+i * s by rw[Nat.succ_mul];omega];exact h2
def RN{w:World}{U Y:Nat->Prop}{b o:Nat}{v:Value}(h:view w U Y b o=some v):w.cell? ⟨b,o,none⟩=some v/\b<w.heap.size:=by
 unfold view at h;split at h
 ·refine⟨h, ?_⟩;unfold World.cell? at h;cases ho:w.heap[b]? with
  |none=>simp[ho] at h
  |some o=>exact(Array.getElem?_eq_some_iff.1 ho).1
 ·cases h
def aB0{w:World}{U Y:Nat->Prop}{own:Bool}{ks:List Int}{v:Value}(h:ro (view w U Y) (.sl own 1 (Ya ks)) v):aez w.heap.size w v ks:=by
 simp only[ro] at h;obtain⟨a,cap,rfl,hc,hr⟩:=h;have hl:(Ya ks).length=ks.length:=by simp[Ya]
 refine⟨a,cap,by rw[hl],λhz=> ?_⟩;obtain⟨b,o,rfl,hrr⟩:=hr (by intro e;apply hz;simpa[Ya] using e);have get:∀j,j<ks.length->w.cell? ⟨b,o+j,none⟩=some (.int .i64 (ks[j]?.getD 0))/\b<w.heap.size:=by
  intro j hj;have e:(Ya ks)[j]? =some [D.int .i64 (ks[j]?.getD 0)]:=by simp[Ya,hj]
  obtain⟨_,h2⟩:=OH hrr e;simp only[BO,Nat.mul_one] at h2;obtain⟨⟨v,hv,hv2⟩,_⟩:=h2;simp only[ro] at hv2;subst hv2;exact RN hv
 have hpos:0<ks.length:=by
  cases ks with
  |nil=>exact absurd rfl hz
  |cons _ _=>simp
 exact⟨b,o,rfl,(get 0 hpos).2,λj hj=>(get j hj).1⟩
def ayG{w:World}{U Y:Nat->Prop}{own:Bool}{rows:ak}{l:List Nk}{v:Value}(hd:aar rows=some l)(h:ro (view w U Y) (.sl own 5 rows) v):auX w.heap.size w v l:=by
 simp only[ro] at h;obtain⟨a,cap,rfl,hc,hr⟩:=h;obtain⟨hl,hg⟩:=agB rows l hd;refine⟨a,cap,by rw[hl],λhz=> ?_⟩;obtain⟨b,o,rfl,hrr⟩:=hr (by intro e;subst e;simp at hl;exact hz (List.length_eq_zero_iff.1 hl.symm));have get:∀i n,l[i]? =some n->ayB w.heap.size w b (o+i * 5) n/\b<w.heap.size:=by intro i n hn;obtain⟨r,hri,hdk⟩:=hg i n hn;obtain⟨_,h2⟩:=OH hrr hri;obtain⟨t,u,own',e1,e2,_,rfl⟩:=apO hdk;simp only[BO] at h2;obtain⟨⟨v0,h0,r0⟩,⟨v1,h1,r1⟩,⟨v2,h2,r2⟩,⟨v3,h3,r3⟩,⟨v4,h4,r4⟩,_⟩:=h2;simp only[ro] at r0 r1 r2 r3;subst r0 r1 r2 r3;exact⟨⟨v4,(RN h0).1,(RN h1).1,by rw[e1];exact(RN h2).1,by rw[e2];exact(RN h3).1,(RN h4).1,aB0 r4⟩,(RN h0).2⟩
 have hpos:∃n,l[0]? =some n:=by
  cases l with
  |nil=>exact absurd rfl hz
  |cons n _=>exact⟨n,rfl⟩
 obtain⟨n0,hn0⟩:=hpos;exact⟨b,o,rfl,(get 0 n0 hn0).2,λi n hn=>(get i n hn).1⟩
def atl{rows:ak}{l:List Nk}(hd:aar rows=some l):∀n,n∈l->n.kids.length<=1048576:=by intro n hn;obtain⟨i,hi⟩:=List.mem_iff_getElem?.1 hn;obtain⟨r,_,hdk⟩:=(agB rows l hd).2 i n hi;obtain⟨_,_,_,_,_,h,_⟩:=apO hdk;exact h
def ahG{H:Heap}{h:View}:∀(st:List Int) (cs:List Value),cs=st.map (Value.int .i64)++cs.drop st.length->iU H h 1 (Ya st) cs []
 |[],cs,e=>rfl
 |x::st,cs,e=>by
  cases cs with
  |nil=>simp at e
  |cons c cs=>simp only[zmc,zca,Pq,List.drop_succ_cons,List.cons.injEq] at e;obtain⟨rfl,e⟩:=e;simp only[Ya,zmc,iU];refine⟨rfl,[],[],rfl, ?_,ahG st cs e⟩;simp only[jU];exact⟨_,_,[],[],rfl,rfl,⟨rfl,rfl⟩,rfl⟩
def alq{X:Ctx}(hP:X.P=Tryz.prog)(hm:OD X.U6 82 0=0)(fn:Func)(args:List V)(cells:List Cell)(rows:ak)(outs:List Cell)(hf:X.P.funcs[82]? =some fn)(h:Prim.lG args cells=some (rows,outs))
  (base:Nat) (U:Nat->Prop) (w:World) (gargs lT:List Value) (N1 N2:List Nat) (hG:Given X base U w 82 args cells gargs lT N1 N2):
  Calls X.P 82 gargs.toArray w λe w'=>∃gs M1 M2,e=.returned (agn gs)/\Did X.P U w w' (N1++N2) fn.resultTypes.toList cells outs lT rows gs M1 M2:=by
 unfold Prim.lG at h;split at h
 ·rename_i own rws;cases hs:M.lG rws with
  |none=>rw[hs] at h;cases h
  |some r=>
   rw[hs] at h;cases h;rw[hP] at hf;have hfn:fn.resultTypes.toList=[54,4]:=by rw[Tryz.func82] at hf;cases hf;rfl
   have ha:=hG.args;simp only[VD,hm] at ha;obtain⟨v0,gs',n1,n2,rfl,rfl,⟨rfl,hv0⟩,rfl,rfl⟩:=ha;have hc:=hG.cells;obtain⟨rfl,rfl⟩:=hc;simp only[bn] at hv0;unfold M.lG at hs;cases hd:aar rws with
   |none=>rw[hd] at hs;cases hs
   |some l=>
    rw[hd,ah] at hs;split at hs
    ·rename_i hlen;have hN:=ayG hd hv0;have hN':=hN;obtain⟨a,cap,rfl,_⟩:=hN';have hk:=atl hd;have hcall:=callsIn_wide.1 (awP w a cap l au (λn hn=>by have:=hk n hn;omega) hN);rw[hP];refine hcall.mono ?_;rintro e w' ⟨hbel,g,bb,rfl,hres⟩;rw[hfn];have hkeep:Keep [] w w':=⟨hbel.os,hbel.tape,hbel.output,hbel.size,λb hb _=>hbel.block b hb⟩
     rcases hres with⟨hno,rfl,rfl⟩|⟨st,hst,rfl,hblk,rfl⟩
     ·rw[hno] at hs;cases hs;refine⟨[.slice none 0 0,.bool false],[],[],rfl,hkeep,by simp,λb hb=>by simp at hb,rfl,⟨rfl,rfl⟩, ?_⟩;simp only[XT];refine⟨_,_,_,_,[],[],rfl,rfl,rfl,(Uf (by kernel_rfl)).2 ⟨[.slice none 0 0], ?_, ?_,rfl⟩,_,_,_,_,[],[],rfl,rfl,rfl,(Uf (by kernel_rfl)).2 ⟨[.bool false], ?_, ?_,rfl⟩,rfl,rfl,rfl⟩
      ·rw[Vm.valOf,if_neg (by intro e;revert e;rw[show QX Tryz.prog 54=false by kernel_rfl];simp)]
      ·simp only[jU];exact⟨_,_,[],[],rfl,rfl,.inl ⟨rfl,rfl,rfl⟩,rfl⟩
      ·rw[Vm.valOf,if_neg (by intro e;revert e;rw[show QX Tryz.prog 4=false by kernel_rfl];simp)]
      ·simp only[jU];exact⟨_,_,[],[],rfl,rfl,⟨rfl,rfl⟩,rfl⟩
     ·rw[hst] at hs;cases hs;have hsl:st.length=l.length:=by
       unfold uN at hst;split at hst
       ·have:=YT _ _ _ hst;simpa using this
       ·cases hst
      have hlt:w.heap.size+2<w'.heap.size:=(Array.getElem?_eq_some_iff.1 hblk).1;refine⟨[.slice (some ⟨w.heap.size+2,0,none⟩) l.length l.length,.bool (st[l.length - 1]?.getD 0==0)],[],[w.heap.size+2],rfl,hkeep,by simp,λb hb=> ?_,rfl,⟨rfl,rfl⟩, ?_⟩
      ·simp at hb;subst hb;exact⟨.inr au,hlt⟩
      ·simp only[XT];refine⟨_,_,_,_,[w.heap.size+2],[],rfl,rfl,rfl,(Uf (by kernel_rfl)).2 ⟨[.slice (some ⟨w.heap.size+2,0,none⟩) l.length l.length], ?_, ?_,rfl⟩,_,_,_,_,[],[],rfl,rfl,rfl,(Uf (by kernel_rfl)).2 ⟨[.bool (st[l.length - 1]?.getD 0==0)], ?_, ?_,rfl⟩,rfl,rfl,rfl⟩
       ·rw[Vm.valOf,if_neg (by intro e;revert e;rw[show QX Tryz.prog 54=false by kernel_rfl];simp)]
       ·simp only[jU];refine⟨_,_,[w.heap.size+2],[],rfl,rfl,.inr ⟨w.heap.size+2,l.length,Q9 l.length st,3,[], ?_,by simp[Ya,hsl],hblk, ?_, ?_,rfl⟩,rfl⟩
        ·simp[Ya,hsl]
        ·rw[aeA au,Nat.mul_one]
        ·refine ahG st _ ?_;have:l.length - st.length=0:=au;simp[Q9,this]
       ·rw[Vm.valOf,if_neg (by intro e;revert e;rw[show QX Tryz.prog 4=false by kernel_rfl];simp)]
       ·simp only[jU];exact⟨_,_,[],[],rfl,rfl,⟨rfl,rfl⟩,rfl⟩
    ·cases hs
 ·cases h
end Go.Proofs.YtgealgmioiepeaaGreatDoor
namespace Go.Proofs.YtgealgmioiepeaaGreatDoor
open Go Go.Vm
def H8:Row:=[.str [66,69,71,73,78],.str [69,78,68],.str [102,117,110,99,116,105,111,110],.str [105,102],.str [101,108,115,101],.str [119,104,105,108,101],.str [102,111,114],.str [100,111],.str [98,114,101,97,107],.str [99,111,110,116,105,110,117,101],.str [110,101,120,116],.str [101,120,105,116],.str [114,101,116,117,114,110],.str [100,101,108,101,116,101],.str [105,110],.str [112,114,105,110,116],.str [112,114,105,110,116,102]]
def VO:Row:=[.str [123],.str [125],.str [40],.str [41],.str [91],.str [93],.str [44],.str [59],.str [43,61],.str [45,61],.str [42,61],.str [47,61],.str [37,61],.str [94,61],.str [124,124],.str [38,38],.str [33,126],.str [61,61],.str [60,61],.str [62,61],.str [33,61],.str [43,43],.str [45,45],.str [62,62],.str [61],.str [43],.str [45],.str [42],.str [47],.str [37],.str [94],.str [33],.str [62],.str [60],.str [124],.str [63],.str [58],.str [126],.str [36]]
def O1:Row:=[.str [97,116,97,110,50],.str [99,108,111,115,101],.str [99,111,115],.str [101,120,112],.str [103,115,117,98],.str [105,110,100,101,120],.str [105,110,116],.str [108,101,110,103,116,104],.str [108,111,103],.str [109,97,116,99,104],.str [114,97,110,100],.str [115,105,110],.str [115,112,108,105,116],.str [115,112,114,105,110,116,102],.str [115,113,114,116],.str [115,114,97,110,100],.str [115,117,98],.str [115,117,98,115,116,114],.str [115,121,115,116,101,109],.str [116,111,108,111,119,101,114],.str [116,111,117,112,112,101,114]]
def M.strings_Contains(s t:aC):Option Bool:=match t with
 |[c]=>some (decide (0<=Lib.indexByte s c))
 |_=>none
def Prim.strings_Contains(a:List V)(c:List Cell):Option (ak×List Cell):=match a,c with
 |[.d (.str s),.d (.str t)],[]=>(M.strings_Contains s t).map λr=>([[.bool r]],[])
 |_,_=>none
def M.strings_IndexByte(s:aC)(c:Int):Option Int:=some (Lib.indexByte s (UInt8.ofNat c.toNat))
def Prim.strings_IndexByte(a:List V)(c:List Cell):Option (ak×List Cell):=match a,c with
 |[.d (.str s),.d (.int .u8 b)],[]=>(M.strings_IndexByte s b).map λr=>([[.int .i64 r]],[])
 |_,_=>none
abbrev oq{R:Type}(x r:ak)(n:Nat)(k:ak->Option R):Option R:=bif((x.length+r.length) * n).ble 140737488355328 then(bif(x.length+r.length).ble 140737488355328 then k (x++r) else none) else none
def aTE(r:Int×Int×aC×ak×Int):Row:=[D.int .i64 r.1,D.int .i64 r.2.1,D.str r.2.2.1,D.sl false 5 (aB r.2.2.2.1),D.int .i64 r.2.2.2.2]
def aTF(r:Int×Int×aC×ak×Int):Int×Int×aC×ak×Int:=(r.1,r.2.1,r.2.2.1,aB r.2.2.2.1,r.2.2.2.2)
def Gw{R:Type}(n:Nat)(x:Row)(k:Int->Int->aC->aC->ak->Option R):Option R:=(jq .i64 x 0).bind λa=>(jq .i64 x 1).bind λb=>(cStr x 2).bind λc=>(cStr x 3).bind λd=>(cSl n x 4).bind λe=>k a b c d e
abbrev lU{A B C D E F G:Type}(f:A->B->C->D->E->G)(p:A×B×C×D×E×F):G:=f p.1 p.2.1 p.2.2.1 p.2.2.2.1 p.2.2.2.2.1
abbrev iE(n:Int):V:=V.d (D.int .i64 n)
abbrev oC(b:Bool):V:=V.d (D.bool b)
abbrev qw(s:aC):V:=V.d (D.str s)
abbrev DC(n:Nat)(r:ak):V:=V.d (D.sl false n r)
def Fj:(∀(R:Type) (x r:ak) (n:Nat) (k:ak->Option R),oq x r n k=bif((x.length+r.length) * n).ble 140737488355328 then(bif(x.length+r.length).ble 140737488355328 then k (x++r) else none) else none)/\(∀r,aTE r=[D.int .i64 r.1,D.int .i64 r.2.1,D.str r.2.2.1,D.sl false 5 (aB r.2.2.2.1),D.int .i64 r.2.2.2.2])/\(∀r,aTF r=(r.1,r.2.1,r.2.2.1,aB r.2.2.2.1,r.2.2.2.2))/\(∀(R:Type) (n:Nat) (x:Row) (k:Int->Int->aC->aC->ak->Option R),Gw n x k=(jq .i64 x 0).bind λa=>(jq .i64 x 1).bind λb=>(cStr x 2).bind λc=>(cStr x 3).bind λd=>(cSl n x 4).bind λe=>k a b c d e):= ⟨λ_ _ _ _ _=>rfl,λ_=>rfl,λ_=>rfl,λ_ _ _ _=>rfl⟩
noncomputable section
variable {R:Type}
def kd:List Nat->List (List Nat)->List (List Nat)
 |_,[]=>[]
 |p,l::r=>match l with
  |[]=>[]::kd [] r
  |k::l=>(p.take k++l)::kd (p.take k++l) r
def kp3:=[[0],[0,10],[2],[3],[3,4,5],[3,4,20],[2],[4,6],[4,6,8],[2]]
def kp4:=[[0],[2]]
def kp5:=[[0],[2]]
def kp6:=[[0,3],[3,4,5],[3,4,5,13],[2,3],[2,3]]
def kp7:=kd [] [[0,0,3],[2,4],[3,11],[0,2,3],[0,0,3,4,5],[4,6],[5,17],[5,22],[5],[5,35],[5],[3,6,7],[5,46],[0,2,3],[0,0,3,4,6,7,52],[0,2,3],[0,0,3,4,6,7],[3,5,6,7],[5],[0,2,3]]
def kp8:=[[0],[0,5],[2],[2]]
def kp9:=kd [] [[0,0,1],[2,10],[0,4],[0,0,1,5],[3,14],[3],[3,25],[0,4],[1]]
def aTG:=kd [] [[0,0],[1,3],[0,3,7,8,9],[4,10],[1,5,7,8,9],[5,15],[1,7,8,9],[4],[0,2]]
def aTH:=kd [] [[0,0],[1,3],[0,3,7,8,9],[4,10],[1,5,7,8,9],[5,15],[1,7,8,9],[4],[0,2]]
def aTI:=[[0],[2]]
def aTJ:=[[0],[0,4],[0,4,5],[2],[0,11],[2],[2]]
def aTK:=kd [] [[0,0],[1,3],[2,4],[3,15],[3],[3],[0,2]]
def aTL:=[[0,3],[0,3,6],[2,3],[2,3]]
def aTM:=kd [] [[0,0,3],[2,4],[3,12],[0,2,3],[0,0,3,5,6],[4],[4,33],[4],[4],[4],[4,52],[0,2,3],[0,3,6],[2,7],[3,70],[0,2,3],[2]]
def aTN:=[[0],[2]]
def aTO:=[[0,1],[0,1,12],[4],[4]]
def aTP:=kd [] [[0,0,1,2,6],[4,7],[5,8],[6],[2,6,8,11,12],[6,26],[0,6],[0,0,1,6,8,12],[4,9],[2,2,6,7,8,33],[0,6],[0,0,1,2,6,7,8,38],[2,6,8,9],[5,51],[5],[5],[2,2,6,7,8,55],[2,6,8,9],[5],[2,2,6,7,8,66],[2,6,8,9],[5],[3,7,8,73],[3,8,9],[5],[4,83],[0,6,8,10],[3,95],[1],[1],[0,0,1,6,8,9,99],[0,6],[1,8],[1]]
def aTQ:=kd [] [[0,0],[0,3],[1,4],[2],[2],[2],[2],[2],[2],[2],[0,4],[0,2],[1]]
def aTR:=kd [] [[0,0],[1,9],[0,2],[0,0,10,11,12],[4,13],[1,4,10,11,12],[5,18],[0,2],[0,0,4,10,11,12,20,21,22],[8,23],[2,5,6,10,11,12,20,21,22],[2,10,11,12,20,21,22,35],[0,2],[0,0,4,10,11,12,20,21,22],[1,10,11,12],[0,2]]
def aTS:=[[0,2],[2]]
def aTT:=kd [] [[0,1,2],[2,3],[3,8,9,10],[6,11],[3,5,8,9,10],[7,16],[3,8,9,10],[6],[0,2]]
def aTU:=[[1],[2]]
def aTV:=kd [] [[0,0],[1,12],[0,2],[0,0,3],[2,16],[2],[2,24],[0,2],[0,0,3,4],[3,32],[3],[3,53],[0,2],[1]]
def aTW:=[[0,1],[0,1,10],[4],[0,1,12],[4],[0,1,5],[0,1,5,6],[0,1,5,6,7],[1,5,6,7,8],[4]]
def aTX:=[[0,1],[0,1,8],[4],[0,1,5],[0,1,5,16],[0,1,5,16,17],[4],[0,1,5,16,27],[4],[0,1,5,42],[4],[4]]
def aTY:=kd [] [[0,0],[1,3],[2,4],[3,8],[3],[3],[0,2]]
def aTZ:=[[0],[0,3],[0,3,8],[0,3,8,9],[2],[0,3,14],[2],[2]]
def aT0:=kd [] [[0,0,1,2,7],[4,8],[5,14],[5,15],[5],[5,23],[5],[2,7,8,9],[5,43],[0,6,7],[0,0,1,7,8,9],[2,2,7,8],[0,6,7]]
def aT1:=[[0,2],[0,2,6],[2],[0,2,3],[0,2,3,11],[2],[2]]
def aT2:=[[0],[0,12],[0]]
def aT3:=kd [] [[0,0],[1,3],[2,10,11,12],[5,13],[2,5,10,11,12],[2,10,11,12],[5],[0,3],[0,2]]
def aT4:=kd [] [[0,0,2],[2,5],[3,6],[2],[0,2],[0,0,2,5,19],[2],[0,2],[0,0,2,5,32],[2],[0,2],[0,0,2,43],[0,2],[0,0,2,3],[3,64],[3],[3],[3],[3,93],[0,2,3],[1],[0,0,2,3,107],[0,2,3],[1]]
def aT5:=[[0,1],[0,1,5],[4],[0,15],[4],[4]]
def aT6:=[[1,2],[1,2,3],[2],[2,8],[2],[2]]
def aT7:=[[0],[2]]
def aT8:=kd [] [[0,0,1],[2,9],[0,4],[0,0,1,5],[3,16],[3,6],[2,6,29],[0,4],[0,0,1,5],[1,5,33],[0,4],[0,0,5,43],[2,7],[3,55],[3],[3,62],[0,4],[1]]
def aT9:=[[0,1],[4]]
def aUa:=[[0,1],[1,5],[5,12],[4],[4]]
def aUb:=[[0],[2]]
def aUc:=[[0,1,2,6],[0,2,6,7],[0,2,6,7,14],[6,7],[0,2,6,7,23],[6,7],[6,7,28],[6,7],[6]]
def aUd:=[[0,1],[0,1,9],[4],[0,1,13],[0,1],[4]]
def aUe:=[[0],[0,3],[0,3,7],[0,3],[0,3,15],[2],[2]]
def aUf:=kd [] [[0,0,1],[2,6],[3,7],[4,8],[5,9],[6,15],[6],[6,10],[7,56],[3,8,9,10],[3,7,8,9],[0,4,5]]
def aUg:=[[0],[4],[2]]
def aUh:=kd [] [[0,1],[1,3],[0,2],[0,1,3,5],[2],[2],[2,15],[2],[2,29],[2],[2,35],[2],[0,2]]
def aUi:=kd [] [[0,1,2,3],[3,7],[4,8],[5,16],[6,17],[7],[0,6],[0,1,2,3,7,8,16,22],[0,6],[0,1,2,3,7,8,16,38],[7],[0,2,8],[0,1,2,3,7,8,16,43],[0,2,7,50],[0,6],[0,2,8],[0,1,2,3,7,8,16,52],[0,2,8],[1,3,7,8,16,56],[6],[6],[1,8],[1,3,7,8,16,60],[0,6],[0,2,3,7,8,16,64],[1,8],[1,3,7,8,16,72],[1,8],[1,7,8,16,80],[1,83],[0,6],[0,2,8],[2,86],[0,6],[0,2,94],[0,6],[1]]
def aUj:=kd [] [[0,1],[1,3],[0,3,7,8,9],[4,10],[1,5,7,8,9],[1,7,8,9],[4],[0,2]]
def aUk:=kd [] [[0,0,1,4],[1,4,5],[3,6],[2,6,23,24,25],[6,26],[3,8,23,24,25],[3,23,24,25],[6],[0,4]]
def aUl:=[[1,2,4],[2,4],[4]]
def aUm:=kd [] [[0,1,2],[2,5],[1,5,18,19,20],[5,21],[2,7,18,19,20],[2,18,19,20],[5],[5],[0,4]]
def aUn:=[[0],[0,8],[2],[0,3,4],[2]]
def aUo:=kd [] [[0,0],[1,9],[0,2],[0,0,3],[2,4],[3,14],[3],[3,5],[4,6],[5,24],[5],[5],[3],[0,2]]
def aUp:=[[1],[1,3,4],[1,3,4,5],[2]]
def aUq:=kd [] [[0,1,2,3],[3,7],[4,8],[5,18],[6,19],[7],[0,6],[0,1,2,3,7,8,18,24],[0,6],[0,1,2,3,7,8,18,36],[0,6],[0,1,2,3,7,8,18,51],[0,6],[0,1,2,3,7,8,18,66],[0,6],[0,1,2,3,7,8,18,81],[0,6],[0,1,2,3,7,8,18,100],[7],[7],[0,6],[0,1,2,3,7,8,18,105],[0,6],[0,1,2,3,7,8,18,109],[0,6],[0,1,2,7,8,18,145],[0,6],[0,2,7,8,18,160],[0,6],[0,2,174],[0,6],[1]]
def aUr:=[[0],[0],[0,3],[0,3,34],[0,3],[3],[2]]
def aUs:=kd [] [[0,0,1],[2,5],[3,6],[1,5,6,7],[4,17],[4],[4,8],[5,23],[5],[5,27],[5],[4],[0,4]]
def aUt:=[[0,1],[4]]
def aUu:=[[0],[0,3],[0,3,4],[0,3,4,14],[0,3,4,14,15],[2],[0,3,4,14,22],[2],[0,3,4,14,39],[2],[0,3,4,14,42],[2],[3,4,53],[2],[2]]
def aUv:=kd [] [[0,0],[1,3],[2,4],[3,8],[3],[3,24],[3],[3],[0,2]]
def aUw:=kd [] [[0,0,1],[2,5],[1,5,6],[3,15],[3],[3,7],[4,20],[4],[4,8],[3,8,30],[4],[4,54],[4],[4],[4],[4,68],[4],[4],[3],[2,89],[0,5],[0,4]]
def aUx:=[[0],[2]]
def aUy:=[[0,1],[0,1,10],[4],[4]]
def aUz:=kd [] [[0,0,1,2,6],[4,7],[5,9],[2,6,11,12],[3,7,8],[2,2,6,7,9,27],[2,6,7,8],[2,2,6,7,9,32],[2,6,7,8],[5,10],[6,42],[5],[2,2,6,7,9,46],[2,6,7,8],[2,2,6,7,9,56],[2,6,7,8],[4,9,62],[4,8],[4,73],[4,8],[5,83],[0,6],[0,0,1,6,7,8,93],[0,6],[1]]
def aUA:=kd [] [[0,0],[1,9],[0,2],[0,0,3],[2,10,11,12],[5,13],[2,4,5,10,11,12],[4,6,10,11,12],[8,21],[2,5,6,10,11,12],[7,28],[0,2],[0,0,3,5,6,10,11,12,32],[0,2],[0,0,3,5,10,11,12,40],[0,2],[0,0,3,5,10,11,12,52],[1,5,10,11,12,52],[0,2],[0,0,3,10,11,12],[5],[0,2]]
def aUB:=kd [] [[0,0],[1,3],[0,3,6,7,8],[4,9],[1,4,5,6,7,8],[6,13],[2,6,7,8],[5,19],[5],[5,27],[0,2],[0,3,6,7,8],[0,2]]
def aUC:=[[0,6],[0,8],[0,8,9],[0,11],[0],[0]]
def aUD:=[[0],[0,12],[2],[2]]
def aUE:=kd [] [[0,0,2],[2,3],[3],[3],[3,18],[3],[3],[3],[3],[0,2,3],[1]]
def aUF:=kd [] [[0,0,2],[2,3],[3,12],[0,2,3],[1],[0,0,2,3],[3],[3,31],[3,36],[3],[3,53],[3,57],[3],[3],[3],[3],[3],[0,2,3],[1]]
def aUG:=kd [] [[0,0,3,4],[3,5],[4,25],[0,4],[0,0,3,4,5,6],[5],[0,4,5,6,7],[1]]
def aUH:=[[0,5],[]]
def aUI:=kd [] [[0,1],[1,3],[0,3,7,8,9],[4,10],[1,5,7,8,9],[1,7,8,9],[4],[0,2]]
def aUJ:=[[0,1,2],[6]]
def aUK:=[[0,1],[0,1,8],[0,1],[4]]
def aUL:=kd [] [[0,0,1,2],[3,12],[0,6],[0,0,2,7],[3,18],[3],[3,24],[4,25],[0,6],[0,0,2,7,24,30],[0,6],[0,0,2,7,32],[3],[3,39],[0,6],[1]]
def aUM:=[[0],[3],[3,8],[2],[2]]
def aUN:=[[0],[2]]
def aUO:=[[0],[2]]
def aUP:=[[],[0]]
def aUQ:=kd [] [[0,0,2,3,9,30],[4,13,30],[0,2,3],[0,0,2,3,4,9,30],[5,17,18,19,30],[8,20,30],[4,5,6,9,17,18,19,30],[6,7,9,17,18,19,30],[5,7,9,17,18,19,28,30],[12],[12,37],[0,2,3],[0,0,2,3,4,5,7,9,17,18,19,28,30],[4,9,17,18,19,30],[9],[0,2,3]]
def aUR:=[[0],[2]]
def aUS:=[[1,2],[1,2,4],[1,2,4,5],[2],[1,2,4,14],[1,2,4,14],[1,2,4,14],[2],[1,2,4,31],[1,2,4,31],[2],[1,2,4,41],[2],[1,2,4,50],[2],[1,2,4,59],[2],[1,2,4,68],[1,2,4,68],[2],[1,2,4,78],[2],[1,2,4,97],[2],[1,2,107],[2],[2]]
def aUT:=[[0],[2]]
def aUU:=kd [] [[0,1,2],[2,3],[3,15],[4,16],[0,2,3],[0,1,2,3,15,20],[3],[3],[3],[0,2,3,42],[2],[0,1,2,3,15,51],[5],[0,2,3],[0,1,2,3,15,55],[0,2,3],[0,1,2,3,15,62],[0,2,3],[0,1,2,3,15,66],[5],[0,2,3],[0,1,2,3,15,71],[0,2,3],[0,1,2,3,15,75],[0,2,3],[0,1,2,3,15,87],[0,2,3],[0,1,2,3,90],[0,2,3],[1]]
def aUV:=[[0,1,2],[6]]
def aUW:=kd [] [[0,1,2],[2,3],[3,15],[0,2,3],[0,1,2,3,15,17],[5],[0,2,3],[0,1,2,3,15,22],[3],[0,2,3,31],[2],[2],[0,1,2,3,15,36],[3],[0,2,3,50],[2],[2],[0,1,2,3,55],[0,2,3],[1]]
def aUX:=[[0],[2]]
def aUY:=[[0],[2]]
def aUZ:=kd [] [[0,0],[1,4],[2,5],[3,12],[3],[3,6],[4,7],[5,24],[5],[5,41],[0,2,3],[0,0,4,5,6,7],[3],[0,2,3]]
def aU0:=kd [] [[0,1],[1,6],[2,7],[3],[0,2,3],[0,1,6,10],[3],[3],[0,2,3],[0,1,6,14],[3],[3],[3],[3],[3],[3],[3],[0,2,3],[0,1,6,23],[3],[3],[3],[0,2,3],[0,1,6,28],[0,2,3],[0,1,6,30],[1,4],[0,4,36],[0,2,3],[2],[0,1,6,40],[3],[0,2,3],[0,1,6,43],[0,2,3],[0,1,6,45],[0,2,3],[0,1,6,47],[3],[0,2,3],[0,1,6,53],[0,2,3],[0,1,6,63],[0,2,3],[0,73],[0,2,3],[2]]
def aU1:=[[1],[1,4],[1,4,5],[1,4,5],[2],[1,4,16],[2],[1,4,31],[2],[1,4,36],[2],[1,4,41],[2],[1,4,46],[2],[1,51],[2],[2]]
def aU2:=[[1],[1,4],[1,4,5],[1,4,5],[1,4,5],[1,4,5],[1,4,5],[1,4,5],[2],[1,4,20],[2],[1,4,31],[2],[1,4,42],[2],[1,4,53],[2],[1,4,64],[2],[1,4,74],[2],[1,84],[2],[2]]
def aU3:=[[0],[2]]
def aU4:=[[0],[2]]
def aU5:=[[0],[2]]
def aU6:=kd [] [[0,0,1],[2,5],[3,6],[4,10],[4],[4],[0,4]]
def aU7:=[[0,3],[5],[4]]
def aJK:=[[0,1],[0,1,7],[4],[0,1,5],[0,1,5,14],[0,1,5,14,15],[4],[0,1,5,14,19],[4],[0,1,5,14,24],[4],[0,1,5,14,33],[4],[0,1,5,14,43],[4],[0,1,5,14,54],[4],[0,1,5,14,64],[4],[0,1,14,74],[0,1,14,74],[4],[0,1,14,87],[4],[0,1,14,97],[4],[0,1,114],[4],[4]]
def aJL:=[[0],[0]]
def aJM:=[[2,3],[2,3,31],[4],[2,3,5],[2,3,5,6],[2,3,5,44],[4],[2,3,51],[4],[2,3,63],[4],[2,8],[4]]
def aJN:=[[0,2],[0,2,6],[0,2,6,7],[2],[0,2,6,12],[2],[0,2,6,17],[2],[0,2,6,22],[0,2,6,22],[2],[0,2,6,28],[2],[0,2,34],[2,3],[2],[2,4],[2]]
def aJO:=[[0,1],[4]]
def aJP:=[[0,1],[4]]
def aJQ:=[[0],[2]]
def aJR:=kd [] [[0,0,1],[2,17],[0,4],[0,0,1,5],[1,5,6],[3,27],[3,7],[1,6,7],[1,5,6],[2,40],[0,4],[0,0,5,8],[2,49],[2,9],[3,10],[3,60],[3],[0,5,9,11],[1,11,68],[0,4],[1]]
def aJS:=[[0,1],[4]]
def aJT:=kd [] [[0,0],[0,3],[1,4],[2],[2],[2],[2],[2],[2],[2],[0,4],[0,2],[1]]
def aJU:=[[0,1],[1,5],[5,12],[4],[4]]
def aJV:=[[0],[2]]
def aJW:=[[0,1],[0,1,9],[4],[0,1,13],[0,1],[4]]
def aJX:=[[0],[0,5,6],[0,5,6,7],[0,3,5,6],[0,5,6,14],[2],[0,5,6],[2]]
def aJY:=[[0,1,2,6],[0,1,2,6,7],[0,1,2,6,7,12],[6],[0,1,2,6,7,21],[6],[1,6,7,27],[6],[6]]
def aJZ:=kd [] [[0,0,1],[2,15],[0,4,5],[0,0,1,6,7],[4,16,17],[6,18],[4,8,9,16,17],[8,31],[4,16,17],[6],[0,4,5]]
def aJ0:=[[1],[1,5],[2],[1,7],[1,7,8],[2],[1,7,20],[2],[1,7,29],[2],[1,7,38],[2],[1,7,47],[1,7,47],[2],[1,53],[2],[2]]
def aJ1:=[[0],[2]]
def aJ2:=[[0],[2]]
def aJ3:=[[0,1],[0,14],[],[4],[],[4]]
def aJ4:=kd [] [[0,0,2],[2,3],[3,10],[2,4],[3,17],[0,2,4],[1],[0,0,2,3,10,21],[0,2],[0,0,2,3,10,25],[5],[5],[3,25],[3],[2,37],[3,38],[0,2],[0,0,2,37,42],[2,5],[0,2],[0,0,2,51],[2,6],[3],[3],[3,7],[4,65],[0,2,6,7],[1],[1]]
def aJ5:=[[0],[0,3],[3],[2]]
def aJ6:=[[0],[0,11],[],[2],[2]]
def aJ7:=kd [] [[0,0,3,4],[3,5],[4,19],[0,4],[0,0,3,4,5],[4,6],[5],[5,36],[0,4],[1,5,6,7],[1]]
def aJ8:=[[0],[2]]
def aJ9:=[[0],[2]]
def aKa:=kd [] [[0,0,1],[2,5],[3,9],[3],[3,17],[0,4],[1]]
def aKb:=[[],[0]]
def aKc:=[[],[0]]
def aKd:=[[0],[2]]
def aKe:=[[0],[2]]
def aKf:=[[0],[2]]
def aKg:=[[0],[3],[3,4],[2],[3,6],[2],[3,8],[3,8],[2],[3,11],[3,11],[3,11],[3,11],[3,11],[3,11],[2],[3,18],[2],[3,20],[3,20],[2],[3,23],[3,23],[3,23],[2],[27],[2],[2]]
def aKh:=[[0,1],[4]]
def aKi:=kd [] [[0,0],[0,3],[1,4],[2],[2],[2],[2],[2],[2],[2],[2],[2],[2],[2],[2],[2],[2],[2],[0,4],[0,2],[1]]
def aKj:=[[0],[2]]
def aKk:=[[0],[2]]
def aKl:=[[1],[1,3],[1,3,8],[1,3,8,9],[2],[1,3,8,24],[2],[1,3,8,35],[2],[1,3,8,42],[2],[1,8,49],[1,8,49],[2],[1,55],[2],[2]]
def aKm:=[[0,1],[0,1,5],[0,1,5,6],[0,1,5,6,21],[0,1,5,6],[0,1,5,22],[0,1,5,22,23],[4],[0,1,5,22,33],[4],[0,1,5,22,49],[4],[0,1,5,22,63],[4],[0,1,5,22,78],[4],[0,1,5,22,90],[4],[0,5,22,98],[0,5,22,98],[4],[0,5,22,114],[4],[5,119],[4],[4]]
def aKn:=kd [] [[0,0],[1,8],[0,2,3],[0,0,4],[2,5],[3,13],[3],[3,20],[4,21],[3],[3,20,30],[3],[3,35],[0,2,3],[2]]
def aKo:=[[0,3],[0,3,12],[4],[4]]
def aKp:=[[0],[0,4],[0,4,5],[2],[0,4,11],[2],[0,17],[0,20],[2],[2]]
def aKq:=[[0,1],[0,1,6],[0,1,6,7],[4],[0,1,18],[4],[4]]
def aKr:=kd [] [[0,1,2],[2,5],[3],[3,6],[4,13],[4],[4],[4],[0,4]]
def aKs:=[[0],[2]]
def aKt:=kd [] [[0,0,1,2,3],[4,9],[1,3,9,10],[4,21],[4],[4],[0,8]]
def aKu:=[[0,1],[4]]
def aKv:=[[0],[2]]
def aKw:=[[0],[2]]
def aKx:=[[0],[2]]
def aKy:=[[0],[2]]
def aKz:=[[0],[0,3],[2],[0,6],[2],[0,14],[2],[2]]
def aKA:=[[0,1],[0,1,8],[0,1],[4]]
def aKB:=kd [] [[0,0,1,2],[3,12],[0,6],[0,0,2,7],[3,24],[3],[3,27],[0,6],[0,0,2,7,36],[3],[0,6]]
def aKC:=[[0],[2]]
def aKD:=[[0],[3],[3,8],[2],[2]]
def aKE:=[[0,1],[4]]
def aKF:=[[0,1],[4]]
def aKG:=[[0],[0,3],[2],[0,6],[2],[0,13],[2],[2]]
def aKH:=kd [] [[0,0,2],[2,3],[3,4],[4,8],[0,2],[0,0,2,3,4,8,15],[6],[3],[0,2],[0,0,2,3,4,8,28],[4],[4,8,31],[4],[4,8,34],[4],[4,8,37],[4],[4,8,40],[4],[2,4,43],[3],[3],[3,65],[3],[0,2,4],[1],[0,0,2,3,4],[2,4,95],[0,2,4],[1]]
def aKI:=kd [] [[0,0,2],[2,3],[2,4],[3,5,6],[5],[5,33],[5,38],[0,2,4],[1],[0,0,2,4],[0,2,4],[1]]
def aKJ:=[[0,2],[0,2],[0,2,3],[2,3],[2]]
def aKK:=[[0,2],[0,2],[0,2,9],[2],[0,2,13],[2],[0,2,3],[0,2,3,21],[2,3],[2],[2,3],[2]]
def aKL:=kd [] [[0,0,2],[2],[2,46],[2,3],[3],[3],[3],[0,2,3],[1],[0,0,2,4],[3],[3],[3,5],[4],[4],[4,6],[5],[0,2]]
def aKM:=kd [] [[0,0,3,4],[3,5],[4,18],[4],[4],[4],[0,4]]
def aKN:=kd [] [[0,0,1],[2,7,8],[4,9],[2,5,7,8],[5,16],[0,4],[0,0,1,7,8],[0,4]]
def aKO:=[[0],[0,3],[0,3,7],[0,3],[0,3,13],[2],[2]]
def aKP:=[[0],[0,9],[2],[0,3],[0,3,13],[0,3],[0,3,21],[2],[0,4,5],[2]]
def aKQ:=[[0],[2]]
def aKR:=[[1],[2]]
def aKS:=[[1,3,5],[1,3,5,13],[6],[6]]
def aKT:=kd [] [[0,0,1],[2,5],[3,6],[4,13],[4],[4,7],[5],[5,8],[6,29],[6],[6],[4],[0,4]]
def aKU:=[[0,1],[4]]
def aKV:=[[0],[2]]
def aKW:=[[0],[2]]
def aKX:=kd [] [[0,0,1,4],[1,4,5],[3,23],[3],[3,37],[3],[0,4,5],[1]]
def aKY:=[[0,1],[0,1,5],[0,1,5,14],[5],[4],[0,1,5],[5],[4]]
def aKZ:=[[0,1,5,6],[0,5,6,10],[6],[6]]
def aK1:=kd [] [[0,0,3,4],[3,5],[4,18],[4],[4],[4],[0,4]]
def aK2:=[[0,4,5,6],[6]]
def aK3:=[[1],[1,20],[2],[1,22],[1,22,23],[2],[1,22,34],[1,22,34],[2],[1,22,41],[2],[1,52],[2],[2]]
def aK4:=kd [] [[0,0],[1,4],[2,5],[3,12],[3],[3,6],[4,7],[5,24],[5],[5,41],[0,2,3],[0,0,4,5,6,7],[3],[0,2,3]]
def aK5:=[[2,3],[2,3,5],[4],[2,3,14],[4],[2,3,22],[4],[2,3,35],[4],[2,3,53],[4],[4]]
def aK6:=[[1,3,5],[3,5,7],[3,5,7,8],[3,5,7,8,19],[6],[3,5,7,24],[3,5,7,24,25],[6],[3,5,7,24,30],[3,5,7,24,30],[6],[3,5,7,24,36],[6],[3,5,7,24,50],[6],[3,5,7,24,64],[6],[3,5,7,24,78],[6],[3,5,7,24,103],[3,5,7,9],[3,5,7,9,122],[3,5,7,9],[6],[3,5,7,24,138],[6],[3,5,7,171],[3,5,7,176],[6],[6],[6]]
def aK7:=kd [] [[0,0,1,2],[3,7],[0,2,7,8],[3,9],[4,17],[4],[4],[4],[0,6]]
def aK8:=[[0],[2]]
def aK9:=[[0],[2]]
def aLa:=kd [] [[0,0,3],[2,5],[3,11],[3],[3,27],[3,30],[0,5],[0,0,3,5],[3],[0,4]]
def aLb:=[[0,3,4],[0,3,4,5],[0,3,4,5,18],[4],[0,3,4,5,22],[0,3,4,5,22,23],[4],[0,3,4,5,22,28],[4],[0,3,4,5,22,33],[4],[0,3,4,5,22,38],[4],[0,3,4,5,22,43],[4],[0,3,4,5,22,48],[4],[0,3,4,5,22,53],[4],[0,3,4,5,22,58],[4],[0,3,4,5,22,63],[4],[0,3,4,5,22,68],[4],[0,3,4,5,22,73],[4],[0,3,4,5,22,78],[4],[0,3,4,22,83],[4],[0,3,4,87],[0,4,95],[4],[4],[4]]
def aLc:=kd [] [[0,0,3,4],[3,5,6],[5,26],[4],[4,6],[5,45],[0,4],[0,0,3,4,5,6],[5,65],[5],[5,74],[5],[4],[4,6],[0,4]]
def aLd:=[[1],[1,4],[1,4,5],[2],[1,4,7],[2],[1,4,9],[2],[1,4,11],[2],[4,16],[2],[4,18],[4,18],[2],[4,21],[2],[4,23],[4,23],[4,23],[4,23],[4,23],[4,23],[23],[2],[2]]
def aLe:=[[1,2],[1,2,4],[1,2,4,5],[2],[1,2,4,10],[2],[1,2,4,15],[2],[1,2,20],[2],[2]]
def aLf:=[[2,3,4,5],[8]]
def aLg:=[[1,2],[4]]
def aLh:=kd [] [[0,1,3,5,6],[4,26],[0,6],[0,1,3,6,7],[4,40],[0,6],[0,1,3,6,7,40,42],[1,6,7],[0,6,7,46],[2],[0,1,3,6,7,40,48],[1,6,7],[0,6,7,52],[2],[0,1,3,6,7,40,54],[0,6,7,59],[1],[1,7],[0,1,3,6,7,40,62],[4,8,9],[4,9],[0,3,6,7,9,73],[3],[0,6,7],[2,40,80],[2],[2],[2,40,84],[4],[2],[2],[2,89],[2],[2],[2],[1]]
def aLi:=[[0,2],[2]]
def aLj:=[[1,3,5],[1,3,5,19],[6],[1,3,5,43],[6],[7],[6]]
def aLk:=kd [] [[0,1,3,5],[3,7],[4,8],[5,13],[5],[5,17],[5],[5],[0,6]]
def aLl:=kd [] [[0,3,4,5],[3,7],[0,4,7,8],[3,28],[4,29],[0,6],[0,4,7,8,28,36],[3,36],[0,6],[1]]
def aLm:=kd [] [[0,0,1],[2,5],[3,6],[4,13],[4],[4,7],[5],[5,8],[6,29],[6],[6],[4],[0,4]]
def aLn:=[[0],[3],[3,4],[3,4],[3,4],[3,4],[3,4],[3,4],[4],[2],[2]]
def aLo:=[[0,2],[2],[2]]
def aLp:=kd [] [[0,0,3,4],[3,5],[4,23],[0,4],[0,0,3,4,5,6],[5],[0,4]]
def aLq:=kd [] [[0,0,3,4],[3,5],[4,28],[0,4],[0,0,3,4,5,6],[5],[0,4]]
def aLr:=kd [] [[0,0,3,4],[3,5],[4,18],[4],[0,4]]
def aLs:=kd [] [[0,0,3,4],[3,5],[4,20],[4,6],[5],[4],[0,4]]
def aLt:=kd [] [[0,0,3,4],[3,5],[4,20],[4,6],[5],[4],[0,4]]
def aLu:=[[0,3,4],[0,3,4,5],[0,3,4,5,24],[4],[0,3,4,5],[4,5,6],[4]]
def aLv:=[[0,3,4],[0,3,4,5],[0,3,4,5,16],[4],[0,3,4,5],[4]]
def aLw:=[[0,2],[0,2,14],[2],[0,2,3],[0,2,3,33],[2],[0,2,3,4],[2,3,4],[2]]
def aLx:=[[0,2],[0,2,3],[0,2,3],[2,3,4],[2]]
def aLy:=[[0,2],[0,2,12],[2],[0,2],[0,2,3],[0,2,3,25],[2,3],[2,3],[2]]
def aLz:=kd [] [[0,0,2],[2,9],[0,2],[0,0,2,3],[3,13],[4,14],[0,2],[0,0,2,3,13,20],[0,2],[0,0,2,3,13,26],[0,2],[0,0,2,3,13,32],[0,2],[0,0,2,3,13,36],[5],[3,4],[2,4,43],[3],[3,52],[0,2],[0,0,2,4,56],[0,2,4],[1],[0,0,2,62],[2],[2,5],[0,2,5],[1],[1]]
def aLA:=kd [] [[0,0],[1,3],[0,3,14,15,16],[4,17],[1,5,14,15,16],[5,20],[1,14,15,16],[1,5,14,15,16,26],[1,14,15,16],[4,32],[0,2],[0,3,14,15,16,41],[4],[0,2]]
def aLB:=[[0],[3],[3,4],[2],[3,6],[2],[3,8],[3,8],[2],[3,11],[3,11],[3,11],[3,11],[3,11],[3,11],[2],[3,18],[2],[3,20],[3,20],[2],[3,23],[3,23],[3,23],[2],[27],[2],[2]]
def aLC:=[[0],[5],[5,6],[2,3],[5,8],[2,3],[5,10],[2,3],[5,12],[2,3],[5,14],[2,3],[5,16],[2,3],[18],[2,3],[2,3]]
def aLD:=[[1,3,5],[3,5,7],[3,5,7,8],[3,5,7,8,20],[6],[3,5,7,24],[3,5,7,24,25],[6],[3,5,7,24,34],[6],[3,5,7,24,43],[6],[3,5,7,24,52],[6],[3,5,7,24,65],[6],[3,5,7,24,78],[3,5,7,9],[6],[3,5,7,24,102],[6],[3,5,7,24,116],[6],[3,5,7,132],[3,7,10],[3,7,10,146],[7,10],[7,10],[6],[6]]
def aLE:=[[],[0]]
def aLF:=[[0,2],[0,2,3],[0,2,8],[2],[0,2,14],[2],[2]]
def aLG:=kd [] [[0,0,2],[2,3],[3,9],[3],[0,2,3],[1]]
def aLH:=[[2,3,4,5],[3,9],[8]]
def aLI:=[[1,2],[4]]
def aLJ:=kd [] [[0,1,2],[2,5],[3,6],[4,11],[4],[4,15],[4],[4],[0,4]]
def aLK:=kd [] [[0,3,4,5],[3,7],[4,19],[4],[4],[4],[0,6],[0,3,4,5,7,52],[4],[0,6]]
def aLL:List (List (List Nat)):=[[],[],[],kp3,kp4,kp5,kp6,kp7,kp8,kp9,aTG,aTH,aTI,aTJ,aTK,aTL,aTM,aTN,aTO,aTP,aTQ,aTR,aTS,aTT,aTU,aTV,aTW,aTX,aTY,aTZ,aT0,aT1,aT2,aT3,aT4,aT5,aT6,aT7,aT8,aT9,aUa,aUb,aUc,aUd,aUe,aUf,aUg,aUh,aUi,aUj,aUk,aUl,aUm,aUn,aUo,aUp,aUq,aUr,aUs,aUt,aUu,aUv,aUw,aUx,aUy,aUz,aUA,aUB,aUC,aUD,aUE,aUF,aUG,aUH,aUI,aUJ,aUK,aUL,aUM,aUN,aUO,aUP,aUQ,aUR,aUS,aUT,aUU,aUV,aUW,aUX,aUY,aUZ,aU0,aU1,aU2,aU3,aU4,aU5,aU6,aU7,aJK,aJL,aJM,aJN,aJO,aJP,aJQ,aJR,aJS,aJT,aJU,aJV,aJW,aJX,aJY,aJZ,aJ0,aJ1,aJ2,aJ3,aJ4,aJ5,aJ6,aJ7,aJ8,aJ9,aKa,aKb,aKc,[],aKd,aKe,aKf,aKg,aKh,aKi,aKj,aKk,aKl,aKm,aKn,aKo,aKp,aKq,aKr,aKs,aKt,aKu,aKv,aKw,aKx,aKy,aKz,[],aKA,aKB,aKC,aKD,aKE,aKF,aKG,aKH,aKI,aKJ,aKK,aKL,aKM,[],aKN,aKO,aKP,aKQ,aKR,aKS,aKT,[],aKU,[],aKV,aKW,aKX,aKY,aKZ,aK1,aK2,aK3,aK4,aK5,aK6,aK7,aK8,[],aK9,aLa,aLb,aLc,aLd,aLe,aLf,aLg,aLh,aLi,aLj,aLk,aLl,aLm,[],[],[],aLn,aLo,aLp,aLq,aLr,aLs,aLt,aLu,aLv,aLw,aLx,aLy,aLz,aLA,aLB,aLC,aLD,aLE,[],aLF,aLG,aLH,aLI,aLJ,aLK,[],[],[],[],[],[],[],[],[],[],[],[],[],[],[],[],[],[],[],[],[],[],[],[],[]]
def aLM(f:Nat):List Nat:=bif Nat.beq f 52 then[1] else[]
def aU8(f:Nat):List Nat:=([(8,[8]),(16,[19,35,39,45,63]),(23,[19,25]),(32,[3,10]),(34,[5,16,29,42,46,51,62,73,78,91,97,109]),(68,[8]),(70,[6,8,16,20,24,30,35,39]),(71,[6,10,18,21,29,40,51,69,71,73,77]),(72,[10,22,28,38]),(73,[3]),(119,[11]),(120,[9,12,19,24,41,45,48,54,56,58,60,67,73]),(122,[9,16]),(123,[10,17,30,32,40]),(161,[6,11,27,53,63,74,92,98]),(162,[8,11,24,31,63]),(163,[5,8,10]),(164,[5,12,15,20,33]),(165,[8,16,48,51,53,56,58,64,66,68,71,73,75,78,80,85]),(166,[8,16,27,31,32]),(180,[14,19,35,39,45]),(181,[8,25,28]),(182,[8,14]),(183,[8,16,27,31,32]),(193,[15,25,42]),(194,[15,20,27,32,37,42,47,52,57,62,67,72,77,82,86,93,97,99,101]),(195,[15,25,35,43,47,50,58,79]),(211,[9,16,20,26,38,39]),(212,[9,16,25,31,43,44]),(213,[8,16,22,23]),(214,[9,17,22,34,35]),(215,[9,17,22,34,35]),(216,[8,27,37]),(217,[7,14,28,29]),(218,[12,16,18,30,36]),(219,[6,15]),(220,[10,14,24,27,29]),(221,[12,17,23,29,35,40,50,56,58,73,75,80]),(228,[10,13,16,19,21]),(229,[5,8,18])]:List (Nat×List Nat)).foldr (λx r=>bif Nat.beq f x.1 then x.2 else r) []
def aU9(f d:Nat):List Nat:=bif mem? d (aU8 f) then[] else List.range 200
def aLN(f:Nat):List Nat:=bif Nat.beq f 65 then[3] else[]
def aLO(f:Nat):List Nat:=[]
def aF9(f:Nat):List Nat:=bif Nat.beq f 162 then[47] else[]
noncomputable def U6:Adv:=⟨λf r=>(aLL.getD f []).getD r [],λf=>aLM f,aU9,λt=>(aLN t),λf d=>mem? d (aF9 f),λf=>aLO f⟩
theorem zaW:(!true)=false:=rfl
theorem zaX:∀n:Nat,n≤n:=Nat.le_refl
theorem zaY:∀{A B:Type}{l:List A}(f:A->B),(l.map f).length=l.length:=fun f=>List.length_map f
abbrev zav:=ak×Int×Bool×ak
abbrev zaw:=ak×Int×Bool×Int×Int×aC×aC×Int×Int×aC×aC×ak×ak
abbrev zax:=ak×Int×Bool×Int×Int×aC×aC×Int×Int×aC×aC×ak
abbrev zay:=ak×Int×Bool×ak×ak
abbrev zaz:=Int×aC
abbrev zaA:=ak×Int×Bool×Int×Int×aC×aC×ak×Bool×ak
abbrev zaB:=ak×Int×Bool×Bool×Bool×Int×Int×aC×aC×Bool×Int×Int×aC×aC×ak×Bool×ak
abbrev zaC:=ak×Int×Bool×Bool×Bool×Int×Int×aC×aC×Bool×Int×Int×aC×aC×Bool×ak×ak
abbrev zaD:=ak×Int×ak×Int×Int×aC
abbrev zaE:=ak×Int×ak×Int×Int×aC×ak
abbrev zaF:=ak×Int×Int×ak×Int×Int×aC×aC
abbrev zaG:=ak×Int×Int×ak×Int×Int×aC×aC×ak
abbrev zaH:=ak×Int×Int×ak×Int×Bool×Int×Int×aC×aC×ak
abbrev zaI:=ak×Int×Int×ak×Int×Bool×Int×Int×aC×aC×ak×ak
abbrev zaJ:=ak×ak×Int×Int×Int×Int×aC×aC×Int×Int×aC×aC
abbrev zaK:=ak×ak×Int×Int×Int×Int×aC×aC×Int×Int×aC×aC×ak
abbrev zaL:=Int×ak×Int×Int×ak
abbrev zaM:=Int×Int×aC×aC×ak
abbrev zaN:=ak×Int×ak×ak
abbrev zaO:=ak×Bool×ak×Int×Bool×Bool×Bool×Int×Int×aC×aC×Bool×Int×Int×aC×aC×Bool×ak
abbrev zaP:=ak×ak×Int×Int
abbrev zaQ:=Bool×ak×Int×Bool×Int×Int×aC×aC×Int×Int×aC×aC×ak
abbrev zaR:=aC×Int×ak×Int×Int
abbrev zaS:=ak×ak×Int×Bool×Bool×Bool×Int×Int×aC×aC×Bool×Int×Int×aC×aC×Bool×ak
abbrev zaT:=ak×Int×Int×Int×aC×aC×Int×Int×aC×aC×ak×ak
abbrev zaU:=Int×Int×aC×aC×Bool×ak×Bool×ak×Int×Bool×ak
abbrev zaV:=Bool×ak×ak×Int×Bool×ak
abbrev zaa:=Bool->Bool->ak->Int->Bool->ak->Option zaU
abbrev zab:=ak->Bool->Int->Int->Bool->Bool->Bool->Bool->Option (ak)
abbrev zac:=ak->Int->Bool->ak->Option (Int×Int×aC×aC×Bool×ak×ak×Int×Bool×ak)
abbrev zad:=ak->Int->Bool->ak->Option zaU
abbrev zae:=Int->ak->Int->Int->Option zaP
abbrev zaf:=Int->ak->Int->Int->Option (aC×ak×Int×Int)
abbrev zag:=Int->ak->Int->Bool->ak->Option zaV
abbrev zah:=ak->Option (ak)
abbrev zai:=Int->Int->aC->aC->ak->Option (Int)
abbrev zaj:=ak->Bool->Int->Option (ak)
abbrev zak:=ak->Bool->Int->Int->aC->aC->ak->Int->Bool->Bool->Bool->Bool->Option (ak)
abbrev zal:=ak->Bool->ak->Option (ak)
abbrev zam:=ak->Bool->ak->Int->Bool->Bool->Bool->Bool->Option (ak)
abbrev zan:=Bool->Bool->ak->Int->Bool->ak->Option zaV
abbrev zao:=Int->Int->aC->aC->ak->ak->Option (ak)
abbrev zap:=ak->Int->Option zaM
abbrev zaq:=Int->Int->aC->aC->ak->Option zaM
abbrev zar:=ak->Bool->Int->aC->Int->ak->Int->Option (ak)
abbrev zas:=ak->Bool->Int->Int->aC->aC->ak->aC->aC->Option (ak)
abbrev zat:=Int->Int->Int->ak->Int->Int->Option zaP
abbrev zau:=Nat->Int->Int->aC->aC->ak->Option (Int)
noncomputable def X0:Ctx:=⟨Tryz.prog,U6,λf=>bif Nat.beq f 82 then some Prim.lG else bif Nat.beq f 105 then some Prim.strings_IndexByte else bif Nat.beq f 159 then some Prim.strings_Contains else none,λg=>bif Nat.beq g 1 then some O1 else bif Nat.beq g 0 then some VO else bif Nat.beq g 2 then some H8 else none,λg=>bif Nat.beq g 3 then true else false⟩
def fTa(S:eP)(C:∀{R:Type},S.α->(S.ρ->Option R)->Option R)(K:List (FE X0):=[])(L:List (LE X0 S.f):=[])(hn:∀{R:Type} x (k:S.ρ->Option R),C x k=(C x some).bind k:=by intros;exact zbK)
  (hE:∀{R:Type} x (k:List Row->List Cell->Option R),bodyC X0 (kt K) (lt L) S.f (S.p.enc x.1) (S.q.enc x.2) k=C x (λr=>k (S.enc r).1 (S.enc r).2):=by intros;kernel_rfl)
  (hL:loops (codeOf X0.P S.f)=L.map LE.c:=by kernel_rfl) (hd:apart (L.map LE.n)=true:=by kernel_rfl) (hp:X0.adY S.f=none:=by kernel_rfl):S.ok X0 λx=>C x some:=fnS C K L hn hE hL hd hp (λ_=>rfl)
abbrev ra:=λn a=>sg n a [] (ρ:=Bool) λr=>([[D.bool r]],[])
abbrev rc:=λn a=>sg n a [] (ρ:=ak) λr=>([[D.sl true 5 r]],[])
abbrev re:=λn a=>sg n a [] (ρ:=Int×Bool×Bool×Bool×Bool) λr=>([[D.int .i64 r.1,D.bool r.2.1,D.bool r.2.2.1,D.bool r.2.2.2.1,D.bool r.2.2.2.2]],[])
abbrev rf:=λn a=>sg n a [] (ρ:=ak×Bool) λr=>([[D.sl true 1 r.1],[D.bool r.2]],[])
abbrev rg:=λn a=>sg n a [] (ρ:=Int) λr=>([[D.int .i64 r]],[])
abbrev rh:=λn a=>sg n a [] (ρ:=Int×Int) λr=>([[D.int .i64 r.1],[D.int .i64 r.2]],[])
abbrev rj:=λn a=>sg n a [] (ρ:=ak) λr=>([[D.sl true 1 r]],[])
abbrev rk:=λn a=>sg n a [] (ρ:=aC) λr=>([[D.str r]],[])
abbrev rl:=λn a=>sg n a [] (ρ:=Int×aC×Int) λr=>([[D.int .i64 r.1,D.str r.2.1,D.int .i64 r.2.2]],[])
abbrev rm:=λn a=>sg n a [] (ρ:=ak) λr=>([[D.sl true 4 r]],[])
abbrev rp:=λn a=>sg n a [] (ρ:=ak) λr=>([[D.sl true 3 r]],[])
abbrev rq:=λn a=>sg n a [] (ρ:=ak×Int×Int) λr=>([[D.sl true 3 r.1],[D.int .i64 r.2.1,D.int .i64 r.2.2]],[])
abbrev rr:=λn a=>sg n a [] (ρ:=Int×Int) λr=>([[D.int .i64 r.1,D.int .i64 r.2]],[])
abbrev rt:=λn a=>sg n a [] (ρ:=ak×Int×Int) λr=>([[D.sl true 5 r.1],[D.int .i64 r.2.1,D.int .i64 r.2.2]],[])
abbrev rv:=λn a=>sg n a [] (ρ:=Bool×Bool×Bool×Int×Int) λr=>([[D.bool r.1,D.bool r.2.1,D.bool r.2.2.1,D.int .i64 r.2.2.2.1,D.int .i64 r.2.2.2.2]],[])
abbrev rx:=λn a=>sg n a [] (ρ:=Int×Int×aC×aC×ak) λr=>([[D.int .i64 r.1,D.int .i64 r.2.1,D.str r.2.2.1,D.str r.2.2.2.1,D.sl true 5 r.2.2.2.2]],[])
abbrev rz:=λn a=>sg n a [] (ρ:=Int×Int×aC×aC×ak) λr=>([[D.int .i64 r.1,D.int .i64 r.2.1,D.str r.2.2.1,D.str r.2.2.2.1,D.sl false 5 r.2.2.2.2]],[])
abbrev _root_.Prod.va{A B C D:Type _}(x:A×B×C×D):D:=x.2.2.2
abbrev _root_.Prod.wc{A B C D E F G H I:Type _}(x:A×B×C×D×E×F×G×H×I):I:=x.2.2.2.2.2.2.2.2
abbrev zaZ(r:ak×Int×Bool×ak):=Cell.box 65 [V.d (D.sl false 3 r.1),V.d (D.int .i64 r.2.1),V.d (D.bool r.2.2.1),V.d (D.sl true 1 r.2.2.2)]
abbrev zba{A:Type}(r:ak×Int×Bool×A)(n:Nat):=Cell.box 65 [DC 3 r.1,iE r.2.1,oC r.2.2.1,V.own n 0]
abbrev zbb:=λn a=>sg n a [cB 60 [pL false 1,pI,pI]] (ρ:=Int×ak×Int×Int) λr=>([[D.int .i64 r.1]],[Cell.box 60 [V.d (D.sl false 1 r.2.1),V.d (D.int .i64 r.2.2.1),V.d (D.int .i64 r.2.2.2)]])
abbrev zbc:=λn a=>sg n a [cB 60 [pL false 1,pI,pI]] (ρ:=aC×ak×Int×Int) λr=>([[D.str r.1]],[Cell.box 60 [V.d (D.sl false 1 r.2.1),V.d (D.int .i64 r.2.2.1),V.d (D.int .i64 r.2.2.2)]])
abbrev zbd:=λn a=>sg n a [cB 60 [pL false 1,pI,pI]] (ρ:=ak×ak×Int×Int) λr=>([[D.sl true 5 r.1]],[Cell.box 60 [V.d (D.sl false 1 r.2.1),V.d (D.int .i64 r.2.2.1),V.d (D.int .i64 r.2.2.2)]])
abbrev zbe:=λn a=>sg n a [cB 65 [pL false 3,pI,pB,pL true 1]] (ρ:=ak×Int×Bool×ak) λr=>([],[zaZ r])
abbrev zbf:=λn a=>sg n a [cB 65 [pL false 3,pI,pB,pL true 1]] (ρ:=Bool×ak×ak×Int×Bool×ak) λr=>([[D.sl r.1 5 r.2.1]],[zaZ r.2.2])
abbrev zbg:=λn a=>sg n a [cB 65 [pL false 3,pI,pB,pL true 1]] (ρ:=Bool×ak×Int×Bool×ak) λr=>([[D.bool r.1]],[zaZ r.2])
abbrev zbh:=λn a=>sg n a [cB 65 [pL false 3,pI,pB,pL true 1]] (ρ:=Int×Int×aC×aC×Bool×ak×Bool×ak×Int×Bool×ak) λr=>([[D.int .i64 r.1,D.int .i64 r.2.1,D.str r.2.2.1,D.str r.2.2.2.1,D.sl r.2.2.2.2.1 5 r.2.2.2.2.2.1,D.bool r.2.2.2.2.2.2.1]],[zaZ r.2.2.2.2.2.2.2])
abbrev zbi:=λn a=>sg n a [cB 65 [pL false 3,pI,pB,pL true 1]] (ρ:=aC×ak×Int×Bool×ak) λr=>([[D.str r.1]],[zaZ r.2])
abbrev zbj:=λn a=>sg n a [cB 65 [pL false 3,pI,pB,pL true 1]] (ρ:=Int×Int×aC×aC×Bool×ak×ak×Int×Bool×ak) λr=>([[D.int .i64 r.1,D.int .i64 r.2.1,D.str r.2.2.1,D.str r.2.2.2.1,D.sl r.2.2.2.2.1 5 r.2.2.2.2.2.1]],[zaZ r.2.2.2.2.2.2])
abbrev zbk:=[dA 100000 (cB 65 [pL false 3,pI,pB,pO 300003 0]),dA 300000 (cB 90 [pB,pB]),dA 300001 (cB 87 [pI,pI,pS,pS,Ve 5,pB]),dA 300002 (cB 87 [pI,pI,pS,pS,pL false 5,pB]),dA 300003 (cA false true 0 1)]
abbrev zbl:=(cA false true 0 1)
abbrev zbm:=[pI,pI,pS,pS,pL false 1]
abbrev zbn:=[dA 0 (pP 100000 0),dA 3 (pP 300000 0),dA 4 (pP 300001 0),dA 5 (pP 300002 0)]
abbrev zbo:=[pP 100000 0,qm [pB,pB]]
abbrev zbp:=(cB 50 [pI,pI,pS,pS,Ve 5])
abbrev zbq:=(pOr (Ik [dA 0 (pP 100000 0)] [dA 100000 (cB 65 [pL false 3,pI,pB,pO 100001039999 0]),dA 100001039999 zbl]) (Ik [dA 0 (pP 100000 0)] [dA 100000 (cB 65 [pL false 3,pI,pB,pO 300000 0]),dA 300000 zbl]))
abbrev zbr:=(cA false false 0 5)
abbrev zbs:=[pI,pB,pB,pB,pB]
abbrev zbt:=[pI,pI,pS,pS,pL false 5]
abbrev zbu:=(cB 65 [pL false 3,pI,pB,pO 300002 0])
abbrev zbv:=[pP 100000 0,pI]
abbrev zbw:=[pL false 1,pI,pI]
abbrev zbx:=[dA 0 (pP 100000 0),dA 2 (pP 300000 0),dA 3 (pP 300001 0)]
abbrev zby:=(cB 65 [pL false 3,pI,pB,pO 300003 0])
abbrev zbz:=[dA 100000 zbu,dA 300000 zbp,dA 300001 (cB 50 [pI,pI,pS,pS,pO 300003 0]),dA 300002 zbl,dA 300003 zbr]
abbrev zbA:=[dA 0 (pL false 5),dA 4 (pP 300000 0),dA 6 (pP 300001 0),dA 23 (pL false 1),dA 24 pI,dA 25 pI]
abbrev zbB:=[dA 0 (pP 100000 0),dA 3 (pP 300000 0),dA 4 (pP 300001 0),dA 5 (pP 300002 0),dA 6 (Ve 5)]
abbrev zbC:=[dA 300000 (cA false false 0 4),dA 300001 (cB 136 [pI,pI,pS,pO 300002 0]),dA 300002 zbl]
abbrev zbD:=[dA 1 (pO 300000 0),dA 5 (pP 300001 0),dA 18 (pL false 5),dA 19 pI,dA 20 pI]
abbrev zbE:=[dA 0 (pL false 3),dA 3 (pP 300000 0),dA 5 (pP 300001 0),dA 6 (pP 300002 0)]
abbrev zbF:=[dA 300000 zbr,dA 300001 (cB 56 [pI,pI,pS,pS,pO 300002 0]),dA 300002 zbl]
abbrev zbG:=[dA 1 (pL false 1),dA 2 (pP 300000 0),dA 5 (pO 300001 0),dA 6 pI]
abbrev zbH:=[dA 2 (pL false 1),dA 7 (pO 300000 0),dA 8 (pP 300001 0),dA 9 pI]
abbrev zbI:=(pOr (Ik [dA 0 pS,dA 1 pI,dA 9 pB] []) (Ik [dA 0 pS,dA 1 pI] []))
abbrev zbJ{A B C D E F:Type}(f:A->B->C->D->E)(x:A×B×C×D×F):E:=f x.1 x.2.1 x.2.2.1 x.2.2.2.1
def zbL{R P:Type}{k:P->Option R}{n:Nat}{x:Row}{f:Int->Int->aC->aC->ak->Option R}{g:Int->Int->aC->aC->ak->Option P}(h:∀a b c d e,f a b c d e=(g a b c d e).bind k):Gw n x f=(Gw n x g).bind k:=by unfold Gw;repeat' first|(with_reducible first|apply dM|apply Bg|apply Bh|apply Bj|apply Bl)|intro _|apply h
theorem zbK{P:Prop}(h:P:=by repeat' first|(with_reducible first|apply dM|apply Bg|apply Bh|apply Bj|apply Bl|apply zbL)|intro _|apply dM|rfl):P:=h
abbrev S.VP:=ra 4 [pL false 1]
abbrev S.Ky:eP:=sg 14 [pL false 1] [] (ρ:=ak×Int×Int) λr=>([[D.sl false 1 r.1,D.int .i64 r.2.1,D.int .i64 r.2.2]],[])
abbrev S.ng:=zbb 57 [pP 100000 0]
abbrev S.bM:=zbb 26 zbv
abbrev S.dw:=zbc 59 [pP 100000 0,pL false 1]
abbrev S.Fp:=zbc 149 [pP 100000 0]
abbrev S.Fq:=zbc 150 [pP 100000 0]
abbrev S.rZ:eP:=sg 104 zbv [cB 60 zbw] (ρ:=Bool×ak×Int×Int) λr=>([[D.bool r.1]],[Cell.box 60 [V.d (D.sl false 1 r.2.1),V.d (D.int .i64 r.2.2.1),V.d (D.int .i64 r.2.2.2)]])
abbrev S.Fv:=zbc 151 [pP 100000 0]
abbrev S.ni:=zbc 145 [pP 100000 0]
abbrev S.DY:=zbd 142 [pP 100000 0]
abbrev S.Au:=rc 174 [pL false 5,pI]
abbrev S.kF:=rc 144 [qm zbm,pL false 1]
abbrev S.Fz:=zbd 143 zbv
abbrev S.Kz:eP:=sg 146 [pP 100000 0,pI,pI,pI] [cB 60 zbw] (ρ:=ak×ak×Int×Int) λr=>([[D.sl true 1 r.1]],[Cell.box 60 [V.d (D.sl false 1 r.2.1),V.d (D.int .i64 r.2.2.1),V.d (D.int .i64 r.2.2.2)]])
abbrev S.qC:=zbb 147 [pP 100000 0,pL false 1]
abbrev S.DZ:=zbb 148 [pP 100000 0]
abbrev S.ny:=zbd 100 zbv
abbrev S.oD:=re 101 []
abbrev S.dQ:=ra 75 [pI,pI,pI]
abbrev S.FC:=rf 91 [pL false 5]
abbrev S.yF:=ra 53 [pL false 5]
abbrev S.D5:=rg 54 [pL false 5]
abbrev S.aZ:=rh 92 [qm zbm]
abbrev S.D6:=ra 135 [pI]
abbrev S.xw:=ra 136 [pI]
abbrev S.bV:=ra 93 [qm zbm]
abbrev S.mM:=ra 41 [pI]
abbrev S.tH:=ra 37 [pI]
abbrev S.jG:=ra 80 [pI]
abbrev S.qE:=ra 44 [pS]
abbrev S.Aw:=rj 127 []
abbrev S.Bo:=rg 126 [pL false 1,pS]
abbrev S.qF:=rg 78 [pS]
abbrev S.qR:=rj 128 []
abbrev S.kV:=ra 79 [pS]
abbrev S.kG:=ra 137 [pS]
abbrev S.yG:=ra 169 [pS]
abbrev S.fZ:=rg 18 [pS,pI]
abbrev S.fM:=rg 76 [pS,pI]
abbrev S.yP:=rg 38 [pS,pI]
abbrev S.vI:=rg 77 [pS,pI,pI]
abbrev S.Bq:=rg 39 [pS,pI]
abbrev S.Bv:=rg 40 [pS,pI]
abbrev S.Az:=rj 81 []
abbrev S.jo:=rk 152 [pI]
abbrev S.nJ:=ra 138 [qm [pI,pS,pI]]
abbrev S.bg:=ra 94 [qm zbm]
abbrev S.aG:=ra 55 [qm zbm]
abbrev S.vJ:=ra 95 [pI]
abbrev S.lC:=ra 96 [pI]
abbrev S.H9:=ra 97 [pI]
abbrev S.aW:=ra 56 [qm zbm,pI,pI]
abbrev S.Bz:=ra 25 [pL false 5]
abbrev S.KA:=ra 171 [pL false 5]
abbrev S.xU:=ra 172 [qm zbs]
abbrev S.vV:=rg 223 [pI]
abbrev S.nK:=rg 196 [qm zbm]
abbrev S.Jq:=ra 187 [qm zbm,qm zbs]
abbrev S.yH:=rl 197 [qm zbm]
abbrev S.fC:=rm 190 [pS]
abbrev S.vW:=rm 226 []
abbrev S.vK:=rm 205 [pL false 4,pI]
abbrev S.fP:=rm 189 [pI,pI,pL false 1]
abbrev S.D7:=rm 203 [qm [pL false 5,pB],pL false 1,qm zbs]
abbrev S.FD:=rm 198 [qm [pL false 5,pB],qm zbm,pS,pS]
abbrev S.BP:=rm 199 [qm [pL false 5,pB],pI]
abbrev S.AA:=rh 224 [pI]
abbrev S.gJ:=re 200 [qm zbm,pI,qm zbs]
abbrev S.gq:=rl 201 [pI]
abbrev S.D8:=rp 232 [qm [pL false 5,pB],pL false 1]
abbrev S.FH:=rp 230 [qm [pL false 5,pB],qm [pI,pS,pI],pL false 1,pI]
abbrev S.BQ:=rp 231 [qm [pL false 5,pB],pI]
abbrev S.FI:=rp 233 [qm [pL false 5,pB],qm zbm,qm zbs]
abbrev S.D9:=rp 225 [qm [pL false 5,pB],pI,qm zbs]
abbrev S.vX:=rp 202 [qm [pL false 5,pB],pI,qm zbs]
abbrev S.zy:=rh 45 [pS,pI]
abbrev S.vM:=ra 102 [qm [pI,pS,pI],qm [pI,pS,pI]]
abbrev S.KC:=rm 204 [qm [pL false 5,pB],qm zbm,qm zbs]
abbrev S.Ea:=rm 188 [qm [pL false 5,pB],pI,qm zbs]
abbrev S.uj:=rm 173 [qm [pL false 5,pB],pI,qm zbs]
abbrev S.Il:=rm 141 [pL false 5,qm zbs]
abbrev S.Eb:=ra 185 [qm [pI,pI,pS,pL false 1]]
abbrev S.yQ:=rf 186 [pL false 4]
abbrev S.KD:=ra 170 [pL false 4]
abbrev S.yI:eP:=sg 140 [pL false 4] [] (ρ:=aC×Bool) λr=>([[D.str r.1],[D.bool r.2]],[])
abbrev S.sQ:=rk 99 [pL false 5,qm zbs]
abbrev S.AO:=zbc 139 zbv
abbrev S.tJ:=zbc 98 zbv
abbrev S.Ec:=zbc 60 [pP 100000 0]
abbrev S.vY:=zbc 28 [pP 100000 0]
abbrev S.Ia:=zbc 58 zbv
abbrev S.yJ:=zbc 27 [pP 100000 0,pS]
abbrev S.vZ:eP:=sg 103 [pP 100000 0] [cB 60 zbw] (ρ:=Int×aC×Int×ak×Int×Int) λr=>([[D.int .i64 r.1,D.str r.2.1,D.int .i64 r.2.2.1]],[Cell.box 60 [V.d (D.sl false 1 r.2.2.2.1),V.d (D.int .i64 r.2.2.2.2.1),V.d (D.int .i64 r.2.2.2.2.2)]])
abbrev S.fA:=ra 20 [pI]
abbrev S.BA:eP:=sg 62 zbv [cB 60 zbw] (ρ:=ak×ak×Int×Int) λr=>([[D.sl true 3 r.1]],[Cell.box 60 [V.d (D.sl false 1 r.2.1),V.d (D.int .i64 r.2.2.1),V.d (D.int .i64 r.2.2.2)]])
abbrev S.OJ:=rk 61 [pL false 3]
abbrev S.BD:=zbc 29 [pP 100000 0]
abbrev S.Ed:=zbc 13 [pP 100000 0]
abbrev S.yR:=rk 5 [pL false 1]
abbrev S.Ee:=ra 63 [pI]
abbrev S.eX:=ra 87 [pI,pI,pI]
abbrev S.iT:=rg 64 [pS,pI]
abbrev S.strings_IndexByte:=rg 105 [pS,pK IntKind.u8]
abbrev S.tN:=ra 106 [pI]
abbrev S.jr:=rg 154 [pS,pI]
abbrev S.yS:=rg 107 [pS,pI]
abbrev S.sS:=rg 155 [pS,pI,pI]
abbrev S.BF:=rg 108 [pS,pI]
abbrev S.jf:=ra 109 [pI]
abbrev S.BG:=rg 110 [pS,pI]
abbrev S.mO:=ra 111 [pI]
abbrev S.oQ:=ra 156 [pI]
abbrev S.AU:=rg 112 [pS,pI]
abbrev S.qG:=ra 113 [pS]
abbrev S.slices_Index:=rg 168 [pL false 1,pS]
abbrev S.qH:=rg 157 [pS]
abbrev S.slices_Contains:=ra 134 [pL false 1,pS]
abbrev S.mF:=ra 131 [pS]
abbrev S.wo:=rl 114 [pS,pI,pI]
abbrev S.jA:=ra 176 [pS,pS]
abbrev S.strings_HasPrefix:=ra 158 [pS,pS]
abbrev S.LD:=rh 115 [pS,pI]
abbrev S.AV:=rl 65 [pS,pI,pI]
abbrev S.Io:=rq 30 [pS,pI,pI]
abbrev S.Uj:=rq 15 [pS]
abbrev S.strings_Contains:=ra 159 [pS,pS]
abbrev S.lD:=ra 130 [pS]
abbrev S.um:=ra 178 [pI]
abbrev S.zN:=ra 179 [pI]
abbrev S.Ef:=rk 160 [pI]
abbrev S.ru:=ra 116 [qm [pI,pS,pI]]
abbrev S.BH:=ra 66 [pL false 3]
abbrev S.zO:=ra 117 [pI]
abbrev S.zQ:=ra 118 [pI]
abbrev S.Ib:=rg 67 [pL false 3]
abbrev S.pY:=rg 35 [pL false 3,pI]
abbrev S.wu:=rr 31 [pL false 3]
abbrev S.aA:eP:=sg 69 [pP 100000 0] [cB 65 [pL false 3,pI,pB,pL true 1]] (ρ:=Int×ak×Int×Bool×ak) λr=>([[D.int .i64 r.1]],[zaZ r.2])
abbrev S.aQ:=zbe 68 [pP 100000 0]
abbrev S.bT:=zbe 32 [pP 100000 0]
abbrev S.dU:=zbf 33 [pP 100000 0]
abbrev S.aO:=zbg 119 zbv
abbrev S.nC:=zbg 222 [pP 100000 0]
abbrev S.iW:=zbf 193 zbo
abbrev S.jg:=zbf 181 zbv
abbrev S.jB:=zbh 210 [pP 100000 0]
abbrev S.fE:=zbi 121 [pP 100000 0]
abbrev S.bF:=zbi 122 [pP 100000 0]
abbrev S.iw:=ra 132 [pI]
abbrev S.oG:=zbh 229 [pP 100000 0]
abbrev S.lH:=zbh 221 [pP 100000 0]
abbrev S.jy:=zbh 220 [pP 100000 0]
abbrev S.uo:=zbh 228 [pP 100000 0]
abbrev S.kW:=zbh 219 [pP 100000 0]
abbrev S.o9:=zbh 218 [pP 100000 0]
abbrev S.mY:eP:=sg 184 [pI,qm [pI,pI,pS,pS,pL false 5,pB],qm [pI,pI,pS,pS,pL false 5,pB]] [] (ρ:=Int×Int×aC×aC×Bool×ak×Bool) λr=>([[D.int .i64 r.1,D.int .i64 r.2.1,D.str r.2.2.1,D.str r.2.2.2.1,D.sl r.2.2.2.2.1 5 r.2.2.2.2.2.1,D.bool r.2.2.2.2.2.2]],[])
abbrev S.qU:=zbh 217 zbo
abbrev S.jK:=zbh 216 zbo
abbrev S.nM:=rg 133 [pI]
abbrev S.oU:=zbh 215 zbo
abbrev S.jQ:=zbh 214 zbo
abbrev S.mP:=ra 209 [pI]
abbrev S.qV:=zbh 213 zbo
abbrev S.lI:=zbh 212 zbo
abbrev S.mG:=zbh 211 zbo
abbrev S.qI:=zbh 195 zbo
abbrev S.oV:=zbh 183 zbo
abbrev S.sU:=zbh 166 zbo
abbrev S.nS:=zbh 123 zbo
abbrev S.vN:=ra 124 [pI]
abbrev S.bP:=zbh 72 zbo
abbrev S.ig:=zbj 163 [pP 100000 0]
abbrev S.rC:=zbj 164 [pP 100000 0]
abbrev S.uq:=zbj 162 [pP 100000 0]
abbrev S.lJ:=ra 125 [pI]
abbrev S.jh:=zbe 73 [pP 100000 0]
abbrev S.fD:=zbj 182 [pP 100000 0,pI,qm [pB,pB]]
abbrev S.xW:=zbj 165 [pP 100000 0]
abbrev S.FK:=ra 192 [pI]
abbrev S.kN:=zbh 194 [pP 100000 0,qm zbs]
abbrev S.oz:=zbj 180 zbv
abbrev S.mQ:=zbj 161 [pP 100000 0]
abbrev S.lq:=zbj 120 [pP 100000 0]
abbrev S.dh:=zbj 70 [pP 100000 0]
abbrev S.oH:=zbj 71 [pP 100000 0]
abbrev S.lZ:=zbj 34 [pP 100000 0]
abbrev S.oW:=rg 74 [qm zbt]
abbrev S.kP:=rg 49 [qm zbt]
abbrev S.wz:=rr 36 [qm zbt]
abbrev S.qW:=rc 52 [qm zbt,pL true 5]
abbrev S.nT:=rc 24 [qm zbt]
abbrev S.jC:=rt 16 [pL false 3]
abbrev S.KE:=rt 6 [pS]
abbrev S.Eh:=ra 17 [pI]
abbrev S.AX:=rg 43 [pS,pI]
abbrev S.Ei:=rl 42 [pS,pI,pI]
abbrev S.Ej:=rl 19 [pS,pI,pB]
abbrev S.Uk:=rq 7 [pS]
abbrev S.wB:=ra 12 [pL false 5]
abbrev S.lG:=rf 82 [pL false 5]
abbrev S.Em:=ra 46 [pL false 5]
abbrev S.fO:=ra 83 [pI]
abbrev S.kH:=rv 84 [qm zbm]
abbrev S.jV:=ra 85 [pI]
abbrev S.kJ:=rv 86 [qm zbm]
abbrev S.kK:=rv 88 [qm zbm]
abbrev S.jm:=ra 47 [qm zbm]
abbrev S.vO:=ra 89 [pI]
abbrev S.Ic:=ra 90 [pI]
abbrev S.gI:=ra 48 [qm zbm,pI,pI]
abbrev S.uO:=rx 50 [pL false 5,pI]
abbrev S.yT:=rx 22 [pL false 5]
abbrev S.Ie:=ra 21 [pL false 5]
abbrev M.YV(code:ak)(k:Bool->Option R):=k (decide ((↑code.length:Int)>1048576))
def M.VP code:=M.YV code some
def C.VP:=fTa S.VP (λx=>M.YV x.1.1)
def M.DI(code:ak)(s:Int×Int)(kn:Int×Int->Option R)(ke:Int×Int->Option R):Option R:=match s with
 |(h',i)=>bif decide (i<(↑code.length:Int)) then(bif decide (i<4000) then((idx code i).bind λa=>(jq IntKind.u8 a 0).bind λb=>kn (i64.wrap (↑(BitVec.ofInt 64 (i64.wrap (i64.wrap (i64.wrap (h' * 131)+i64.wrap b)+7)) &&& BitVec.ofInt 64 1073741823).toNat:Int),i64.wrap (i+1))) else ke (h',i)) else ke (h',i)
def M.Ja code s:=M.DI code s (λs=>some (Sum.inl s)) λt=>some (Sum.inr t)
def M.SI code s:=fH (M.Ja code) s
def F.SI:LE X0 14:=le 3 (Ik [dA 0 (pL false 1),dA 3 pI,dA 4 pI] []) (λx=>(x.1.2.1,x.1.2.2.1)) (λx s=>((x.1.1,s.1,s.2,()),())) (λx=> .leaf (Int×Int) (λt=>(Ex.exit 0,⟨[(0,DC 1 x.1.1),(3,iE t.1),(4,iE t.2),(15,oC false)],[]⟩))) (λx=>M.DI x.1.1) [] [] (by rintro _ _ ⟨_,_⟩ _ _<;>simp only[M.DI,nb]<;>rfl)
abbrev M.Vf(code:ak)(k:ak×Int×Int->Option R):=(M.SI code (i64.wrap (10101+(↑code.length:Int)),0)).bind λa=>k (code,0,a.1)
def M.Ky code:=M.Vf code some
def C.Ky:=fTa S.Ky (λx=>M.Vf x.1.1) [] [F.SI]
abbrev M.SK(c:ak)(c1 c2:Int)(k:Int×ak×Int×Int->Option R):=cond (decide (c1<(↑c.length:Int))) ((idx c c1).bind λa=>(jq IntKind.u8 a 0).bind λb=>k (i64.wrap (↑(BitVec.ofInt 64 (i64.wrap (i64.wrap (↑(BitVec.ofInt 64 (i64.wrap (↑(BitVec.ofInt 64 ((i64.wrap (i64.wrap (c2 * 6364136223846793005)+1442695040888963407)).fdiv 8589934592) ^^^ BitVec.ofInt 64 ((i64.wrap (i64.wrap (c2 * 6364136223846793005)+1442695040888963407)).fdiv 35184372088832)).toNat:Int)) &&& BitVec.ofInt 64 255).toNat:Int)+i64.wrap b)) &&& BitVec.ofInt 64 255).toNat:Int),c,i64.wrap (c1+1),i64.wrap (i64.wrap (c2 * 6364136223846793005)+1442695040888963407))) (k (i64.wrap (↑(BitVec.ofInt 64 (i64.wrap (↑(BitVec.ofInt 64 ((i64.wrap (i64.wrap (c2 * 6364136223846793005)+1442695040888963407)).fdiv 8589934592) ^^^ BitVec.ofInt 64 ((i64.wrap (i64.wrap (c2 * 6364136223846793005)+1442695040888963407)).fdiv 35184372088832)).toNat:Int)) &&& BitVec.ofInt 64 255).toNat:Int),c,c1,i64.wrap (i64.wrap (c2 * 6364136223846793005)+1442695040888963407)))
def M.ng c c1 c2:=M.SK c c1 c2 some
def C.ng:=fTa S.ng (λx=>M.SK x.2.1.1 x.2.1.2.1 x.2.1.2.2.1)
abbrev M.Gx(n':Int)(c:ak)(c1 c2:Int)(k:Int×ak×Int×Int->Option R):=cond (decide (n'<=0)) (k (0,c,c1,c2)) (cond (decide (n'<=256)) ((M.ng c c1 c2).bind λd=>cond (!decide (n'=0)) (k (d.1.tmod n',d.2)) none) ((M.ng c c1 c2).bind λe=>(M.ng e.2.1 e.2.2.1 e.2.2.2).bind λf=>(M.ng f.2.1 f.2.2.1 f.2.2.2).bind λb=>(M.ng b.2.1 b.2.2.1 b.2.2.2).bind λa=>cond (!decide (n'=0)) (k ((i64.wrap (i64.wrap (i64.wrap (i64.wrap (e.1 * 16777216)+i64.wrap (f.1 * 65536))+i64.wrap (b.1 * 256))+a.1)).tmod n',a.2)) none))
def M.bM n' c c1 c2:=M.Gx n' c c1 c2 some
def C.bM:=fTa S.bM (λx=>M.Gx x.1.2.1 x.2.1.1 x.2.1.2.1 x.2.1.2.2.1) [fe C.ng]
abbrev M.Nw(list c:ak)(c1 c2:Int)(k:aC×ak×Int×Int->Option R):=(M.bM ((↑list.length:Int)) c c1 c2).bind λa=>(idx list a.1).bind λb=>(cStr b 0).bind λd=>k (d,a.2)
def M.dw list c c1 c2:=M.Nw list c c1 c2 some
def C.dw:=fTa S.dw (λx=>M.Nw x.1.2.1 x.2.1.1 x.2.1.2.1 x.2.1.2.2.1) [fe C.bM]
abbrev M.Vg(c:ak)(c1 c2:Int)(k:aC×ak×Int×Int->Option R):=(M.dw ([[D.str [48]],[D.str [49]],[D.str [52,50]],[D.str [51,46,53]],[D.str [46,53]],[D.str [55,46]],[D.str [49,101,51]],[D.str [50,69,45,52]],[D.str [49,48,46,50,53,101,43,49]]]) c c1 c2).bind λa=>k (a)
def M.Fp c c1 c2:=M.Vg c c1 c2 some
def C.Fp:=fTa S.Fp (λx=>M.Vg x.2.1.1 x.2.1.2.1 x.2.1.2.2.1) [fe C.dw]
abbrev M.Vh(c:ak)(c1 c2:Int)(k:aC×ak×Int×Int->Option R):=(M.dw ([[D.str [34,34]],[D.str [34,97,34]],[D.str [34,120,32,121,34]],[D.str [34,113,92,34,113,34]],[D.str [34,92,110,34]],[D.str [34,35,110,111,34]],[D.str [34,47,34]]]) c c1 c2).bind λa=>k (a)
def M.Fq c c1 c2:=M.Vh c c1 c2 some
def C.Fq:=fTa S.Fq (λx=>M.Vh x.2.1.1 x.2.1.2.1 x.2.1.2.2.1) [fe C.dw]
abbrev M.SN(n':Int)(c:ak)(c1 c2:Int)(k:Bool×ak×Int×Int->Option R):=(M.bM n' c c1 c2).bind λa=>k (a.1==0,a.2)
def M.rZ n' c c1 c2:=M.SN n' c c1 c2 some
def C.rZ:=fTa S.rZ (λx=>M.SN x.1.2.1 x.2.1.1 x.2.1.2.1 x.2.1.2.2.1) [fe C.bM]
abbrev M.Vj(c:ak)(c1 c2:Int)(k:aC×ak×Int×Int->Option R):=(M.dw ([[D.str [47,97,47]],[D.str [47,94,120,43,36,47]],[D.str [47,97,92,47,98,47]],[D.str [47,61,47]],[D.str [47,32,47]],[D.str [47,91,48,45,57,93,47]]]) c c1 c2).bind λa=>k (a)
def M.Fv c c1 c2:=M.Vj c c1 c2 some
def C.Fv:=fTa S.Fv (λx=>M.Vj x.2.1.1 x.2.1.2.1 x.2.1.2.2.1) [fe C.dw]
abbrev M.SQ(c:ak)(c1 c2:Int)(k:aC×ak×Int×Int->Option R):=(M.dw ([[D.str [120]],[D.str [121]],[D.str [110]],[D.str [105]],[D.str [97,114,114]],[D.str [78,82]],[D.str [70,83]],[D.str [116,111,116,97,108]],[D.str [97,49]],[D.str [95,116]],[D.str [99,111,117,110,116]]]) c c1 c2).bind λa=>k (a)
def M.ni c c1 c2:=M.SQ c c1 c2 some
def C.ni:=fTa S.ni (λx=>M.SQ x.2.1.1 x.2.1.2.1 x.2.1.2.2.1) [fe C.dw]
abbrev M.SS(c:ak)(c1 c2:Int)(k:ak×ak×Int×Int->Option R):=(M.bM 7 c c1 c2).bind λa=>cond (a.1==0) ((M.Fp a.2.1 a.2.2.1 a.2.2.2).bind λf=>k ([[D.int .i64 2,D.int .i64 0,D.str f.1,D.str [],D.sl true 1 []]],f.2)) (cond (a.1==1) ((M.Fq a.2.1 a.2.2.1 a.2.2.2).bind λh=>k ([[D.int .i64 3,D.int .i64 0,D.str h.1,D.str [],D.sl true 1 []]],h.2)) (cond (a.1==2) ((M.rZ 2 a.2.1 a.2.2.1 a.2.2.2).bind λb=>cond b.1 ((M.Fv b.2.1 b.2.2.1 b.2.2.2).bind λg=>k ([[D.int .i64 4,D.int .i64 0,D.str g.1,D.str [],D.sl true 1 []]],g.2)) ((M.ni b.2.1 b.2.2.1 b.2.2.2).bind λd=>k ([[D.int .i64 1,D.int .i64 0,D.str d.1,D.str [],D.sl true 1 []]],d.2))) ((M.ni a.2.1 a.2.2.1 a.2.2.2).bind λe=>k ([[D.int .i64 1,D.int .i64 0,D.str e.1,D.str [],D.sl true 1 []]],e.2))))
def M.DY c c1 c2:=M.SS c c1 c2 some
def C.DY:=fTa S.DY (λx=>M.SS x.2.1.1 x.2.1.2.1 x.2.1.2.2.1) [fe C.bM,fe C.Fp,fe C.Fq,fe C.rZ,fe C.Fv,fe C.ni]
def M.En(l:ak)(by' i:Int)(x':ak)(oO pX:Int)(tZ xg:aC)(s:Int×ak)(kn:Int×ak->Option R)(ke:Int×ak->Option R):Option R:=match s with
 |(k',BI)=>(idx l i).bind λa=>(cSl 1 a 4).bind λf=>bif decide (k'<(↑f.length:Int)) then((idx l i).bind λe=>(cSl 1 e 4).bind λd=>(idx d k').bind λb=>(jq .i64 b 0).bind λc=>oq BI [[D.int .i64 (i64.wrap (c+by'))]] 8 λg=>kn (i64.wrap (k'+1),g)) else ke (k',BI)
def M.JG l by' i x' oO pX tZ xg s:=M.En l by' i x' oO pX tZ xg s (λs=>some (Sum.inl s)) λt=>some (Sum.inr t)
def M.NS l by' i x' oO pX tZ xg s:=fH (M.JG l by' i x' oO pX tZ xg) s
def F.NS:LE X0 174:=le 8 (Ik [dA 0 (pL false 5),dA 1 pI,dA 5 (pO 300000 0),dA 6 pI,dA 7 (pP 300001 0),dA 8 pI] zbF) (λx=>(x.1.va.2.2.1,x.va.1)) (λx s=>((x.1.1,x.1.2.1,(),x.1.va.1,(),s.1,()),(x.2.1,(x.2.2.1.1,x.2.2.1.2.1,x.2.2.1.2.2.1,x.2.2.1.va.1,(),()),s.2,()))) (λx=> .leaf (Int×ak) (λt=>(Ex.exit 2,⟨[(0,DC 5 x.1.1),(1,iE x.1.2.1),(5,V.own 300000 0),(6,iE x.1.va.1),(7,V.ptr 300001 0),(8,iE t.1),(29,oC false)],[(300000,Cell.arr false false 0 5 x.2.1),(300001,Cell.box 56 [iE x.2.2.1.1,iE x.2.2.1.2.1,qw x.2.2.1.2.2.1,qw x.2.2.1.va.1,V.own 300002 0]),(300002,Cell.arr false true 0 1 t.2)]⟩))) (λx=>zbJ (M.En x.1.1 x.1.2.1 x.1.va.1 x.2.1) x.2.2.1) [] [] (by rintro _ _ ⟨_,_⟩ _ _<;>simp only[zbJ,oq,M.En,nb]<;>rfl)
def M.Eo(l:ak)(by':Int)(s:Int×ak)(kn:Int×ak->Option R)(ke:Int×ak->Option R):Option R:=match s with
 |(i,x')=>bif decide (i<(↑l.length:Int)) then((idx l i).bind λb=>Gw 1 b λn43 n44 s45 s46 _=>((M.NS l by' i x' n43 n44 s45 s46 (0,[])).bind λa=>bif aj a.2 then(oq x' [[D.int .i64 n43,D.int .i64 n44,D.str s45,D.str s46,D.sl true 1 a.2]] 72 λc=>kn (i64.wrap (i+1),c)) else none)) else ke (i,x')
def M.JH l by' s:=M.Eo l by' s (λs=>some (Sum.inl s)) λt=>some (Sum.inr t)
def M.NT l by' s:=fH (M.JH l by') s
def F.NT:LE X0 174:=le 3 (Ik [dA 0 (pL false 5),dA 1 pI,dA 5 (pO 300000 0),dA 6 pI] [dA 300000 zbr]) (λx=>(x.1.va.1,x.2.1)) (λx s=>((x.1.1,x.1.2.1,(),s.1,()),(s.2,()))) (λx=> .leaf (Int×ak) (λt=>(Ex.exit 0,⟨[(0,DC 5 x.1.1),(1,iE x.1.2.1),(5,V.own 300000 0),(6,iE t.1),(13,oC false)],[(300000,Cell.arr false false 0 5 t.2)]⟩))) (λx=>M.Eo x.1.1 x.1.2.1) [] [F.NS] (by rintro _ _ ⟨_,_⟩ _ _<;>simp only[oq,Gw,M.Eo,nb]<;>rfl)
abbrev M.PN(l:ak)(by':Int)(k:ak->Option R):=(M.NT l by' (0,[])).bind λa=>k a.2
def M.Au l by':=M.PN l by' some
def C.Au:=fTa S.Au (λx=>M.PN x.1.1 x.1.2.1) [] [F.NT]
def M.Gy(parts:ak)(x' oO:Int)(pX tZ:aC)(s:Int×ak×ak)(kn:Int×ak×ak->Option R)(ke:Int×ak×ak->Option R):Option R:=match s with
 |(k',xg,BI)=>bif decide (k'<(↑parts.length:Int)) then((idx parts k').bind λb=>(cSl 5 b 0).bind λa=>(M.Au a ((↑xg.length:Int))).bind λc=>oq xg c 72 λd=>oq BI [[D.int .i64 (i64.wrap ((↑d.length:Int) - 1))]] 8 λe=>kn (i64.wrap (k'+1),d,e)) else ke (k',xg,BI)
def M.LG parts x' oO pX tZ s:=M.Gy parts x' oO pX tZ s (λs=>some (Sum.inl s)) λt=>some (Sum.inr t)
def M.PO parts x' oO pX tZ s:=fH (M.LG parts x' oO pX tZ) s
def F.PO:LE X0 144:=le 4 (Ik zbG [dA 300000 (cB 56 [pI,pI,pS,pS,pO 300002 0]),dA 300001 zbr,dA 300002 zbl]) (λx=>(x.1.va.1,x.2.2.1,x.va.1)) (λx s=>((x.1.1,(),(),s.1,()),((x.2.1.1,x.2.1.2.1,x.2.1.2.2.1,x.2.1.va.1,(),()),s.2.1,s.2.2,()))) (λx=> .leaf (Int×ak×ak) (λt=>(Ex.exit 0,⟨[(1,DC 1 x.1.1),(2,V.ptr 300000 0),(5,V.own 300001 0),(6,iE t.1),(13,oC false)],[(300000,Cell.box 56 [iE x.2.1.1,iE x.2.1.2.1,qw x.2.1.2.2.1,qw x.2.1.va.1,V.own 300002 0]),(300001,Cell.arr false false 0 5 t.2.1),(300002,Cell.arr false true 0 1 t.2.2)]⟩))) (λx=>zbJ (M.Gy x.1.1) x.2.1) [fe C.Au] [] (by rintro _ _ ⟨_,_,_⟩ _ _<;>simp only[zbJ,oq,M.Gy,nb]<;>rfl)
abbrev M.SV(n' jW:Int)(mZ oP:aC)(sV parts:ak)(k:ak->Option R):=(M.PO parts n' jW mZ oP (0,[],[])).bind λa=>cond (aj a.2.2) (oq a.2.1 [[D.int .i64 n',D.int .i64 jW,D.str mZ,D.str oP,D.sl true 1 a.2.2]] 72 λb=>k b) none
def M.kF n' jW mZ oP sV parts:=M.SV n' jW mZ oP sV parts some
def C.kF:=fTa S.kF (λx=>M.SV x.1.1.1 x.1.1.2.1 x.1.1.2.2.1 x.1.1.va.1 x.1.1.va.2.1 x.1.2.1) [] [F.PO]
def M.DJ(bY:zae)(deep:Int)(c:ak)(c1 c2:Int)(k:ak×ak×Int×Int->Option R):=(M.bM 4 c c1 c2).bind λa=>cond (a.1==0) ((M.ni a.2.1 a.2.2.1 a.2.2.2).bind λb=>(bY (i64.wrap (deep - 1)) b.2.1 b.2.2.1 b.2.2.2).bind λf=>(M.kF 5 0 b.1 [] [] (aB [[D.sl true 5 f.1]])).bind λg=>cond ([[D.sl true 5 g]].all fB) (k (g,f.2)) none) (cond (a.1==1) ((bY (i64.wrap (deep - 2)) a.2.1 a.2.2.1 a.2.2.2).bind λd=>(M.kF 6 0 [] [] [] (aB [[D.sl true 5 d.1]])).bind λh=>cond ([[D.sl true 5 h]].all fB) (k (h,d.2)) none) ((M.ni a.2.1 a.2.2.1 a.2.2.2).bind λe=>k ([[D.int .i64 1,D.int .i64 0,D.str e.1,D.str [],D.sl true 1 []]],e.2)))
def C.agC{bY:zae}(FM:S.ny.ok X0 λx=>bY x.1.2.1 x.2.1.1 x.2.1.2.1 x.2.1.2.2.1):S.Fz.ok X0 λx=>M.DJ bY x.1.2.1 x.2.1.1 x.2.1.2.1 x.2.1.2.2.1 some:=fnS (λx=>M.DJ bY x.1.2.1 x.2.1.1 x.2.1.2.1 x.2.1.2.2.1) [fe C.bM,fe C.ni,fe FM,fe C.kF] [] (by intros;simp only[M.DJ,nb]<;>rfl)
def M.LH(bY:zae)(deep:Int)(s:Int×ak×Int×Int×ak)(kn:Int×ak×Int×Int×ak->Option R)(ke:Int×ak×Int×Int×ak->Option R):Option R:=match s with
 |(n',v,v1,v2,x')=>bif decide (n'>0) then((bY deep v v1 v2).bind λa=>oq x' [[D.sl true 5 a.1]] 24 λb=>kn (i64.wrap (n' - 1),a.2.1,a.2.2.1,a.2.2.2,b)) else ke (n',v,v1,v2,x')
def M.RP bY deep s:=M.LH bY deep s (λs=>some (Sum.inl s)) λt=>some (Sum.inr t)
def M.PS bY deep s:=fH (M.RP bY deep) s
def F.PS{bY:zae}(FM:S.ny.ok X0 λx=>bY x.1.2.1 x.2.1.1 x.2.1.2.1 x.2.1.2.2.1):LE X0 146:=le 3 (Ik [dA 0 (pP 100000 0),dA 3 pI,dA 9 (pO 300000 0),dA 10 pI] [dA 100000 (cB 60 zbw),dA 300000 (cA false false 0 1)]) (λx=>(x.1.va.1,x.2.1.1,x.2.1.2.1,x.2.1.2.2.1,x.2.2.1)) (λx s=>(((),x.1.2.1,(),s.1,()),((s.2.1,s.2.2.1,s.va.1,()),s.va.2,()))) (λx=> .leaf zaL (λt=>(Ex.exit 0,⟨[(0,V.ptr 100000 0),(3,iE x.1.2.1),(9,V.own 300000 0),(10,iE t.1),(21,oC false)],[(100000,Cell.box 60 [DC 1 t.2.1,iE t.2.2.1,iE t.va.1]),(300000,Cell.arr false false 0 1 t.va.2)]⟩))) (λx=>M.LH bY x.1.2.1) [fe FM] [] (by rintro _ _ ⟨_,_,_,_,_⟩ _ _<;>simp only[oq,M.LH,nb]<;>rfl)
def M.Jr(bY:zae)(least most deep:Int)(c:ak)(c1 c2:Int)(k:ak×ak×Int×Int->Option R):=(M.bM (i64.wrap (i64.wrap (most - least)+1)) c c1 c2).bind λa=>(M.PS bY deep (i64.wrap (least+a.1),a.2.1,a.2.2.1,a.2.2.2,[])).bind λb=>k (b.2.2.2.2,b.2.1,b.2.2.1,b.2.2.2.1)
def C.ajT{bY:zae}(FM:S.ny.ok X0 λx=>bY x.1.2.1 x.2.1.1 x.2.1.2.1 x.2.1.2.2.1):S.Kz.ok X0 λx=>M.Jr bY x.1.2.1 x.1.2.2.1 x.1.va.1 x.2.1.1 x.2.1.2.1 x.2.1.2.2.1 some:=fnS (λx=>M.Jr bY x.1.2.1 x.1.2.2.1 x.1.va.1 x.2.1.1 x.2.1.2.1 x.2.1.2.2.1) [fe C.bM] [F.PS FM] (by intros;simp only[M.Jr,nb]<;>rfl)
abbrev M.LJ(list c:ak)(c1 c2:Int)(k:Int×ak×Int×Int->Option R):=(M.bM ((↑list.length:Int)) c c1 c2).bind λa=>(idx list a.1).bind λb=>(jq .i64 b 0).bind λd=>k (d,a.2)
def M.qC list c c1 c2:=M.LJ list c c1 c2 some
def C.qC:=fTa S.qC (λx=>M.LJ x.1.2.1 x.2.1.1 x.2.1.2.1 x.2.1.2.2.1) [fe C.bM]
abbrev M.PU(c:ak)(c1 c2:Int)(k:Int×ak×Int×Int->Option R):=(M.qC ([[D.int .i64 60],[D.int .i64 57],[D.int .i64 58],[D.int .i64 59],[D.int .i64 55],[D.int .i64 56],[D.int .i64 56],[D.int .i64 99],[D.int .i64 99],[D.int .i64 99],[D.int .i64 63],[D.int .i64 48],[D.int .i64 47],[D.int .i64 50],[D.int .i64 62],[D.int .i64 62],[D.int .i64 49],[D.int .i64 67],[D.int .i64 46],[D.int .i64 45],[D.int .i64 44]]) c c1 c2).bind λa=>k (a)
def M.DZ c c1 c2:=M.PU c c1 c2 some
def C.DZ:=fTa S.DZ (λx=>M.PU x.2.1.1 x.2.1.2.1 x.2.1.2.2.1) [fe C.qC]
abbrev M.KF(UH:Int×ak×Int×Int)(bY:zae)(deep:Int)(k:ak×ak×Int×Int->Option R):=(M.qC ([[D.int .i64 56],[D.int .i64 55],[D.int .i64 61]]) UH.2.1 UH.2.2.1 UH.2.2.2).bind λa=>(bY (i64.wrap (deep - 1)) a.2.1 a.2.2.1 a.2.2.2).bind λb=>(M.kF 11 a.1 [] [] [] (aB [[D.sl true 5 b.1]])).bind λc=>cond ([[D.sl true 5 c]].all fB) (k (c,b.2)) none
def M.FP(su:zae)(bY:zae)(zS:zat)(deep:Int)(c:ak)(c1 c2:Int)(k:ak×ak×Int×Int->Option R):=cond (decide (deep<=0)) ((M.DY c c1 c2).bind λn=>k (n)) ((M.bM 2 c c1 c2).bind λb=>(M.bM 16 b.2.1 b.2.2.1 b.2.2.2).bind λa=>cond (a.1==0) ((M.DY a.2.1 a.2.2.1 a.2.2.2).bind λv=>k (v)) (cond (a.1==1) ((su deep a.2.1 a.2.2.1 a.2.2.2).bind λx=>k (x)) (cond (a.1==2) ((bY (i64.wrap (deep - 1)) a.2.1 a.2.2.1 a.2.2.2).bind λu=>(M.kF 6 0 [] [] [] (aB [[D.sl true 5 u.1]])).bind λG=>cond ([[D.sl true 5 G]].all fB) (k (G,u.2)) none) (cond (a.1==3) ((M.ni a.2.1 a.2.2.1 a.2.2.2).bind λl=>(zS 0 3 (i64.wrap (deep - 1)) l.2.1 l.2.2.1 l.2.2.2).bind λh=>(M.kF 7 0 l.1 [] [] (aB h.1)).bind λH=>cond ([[D.sl true 5 H]].all fB) (k (H,h.2)) none) (cond (a.1==4) ((M.dw ([[D.str [108,101,110,103,116,104]],[D.str [115,117,98,115,116,114]],[D.str [105,110,100,101,120]],[D.str [105,110,116]],[D.str [116,111,117,112,112,101,114]]]) a.2.1 a.2.2.1 a.2.2.2).bind λt=>(zS 0 3 (i64.wrap (deep - 2)) t.2.1 t.2.2.1 t.2.2.2).bind λp=>(M.kF 8 0 t.1 [] [] (aB p.1)).bind λC=>cond ([[D.sl true 5 C]].all fB) (k (C,p.2)) none) (cond (a.1==5) ((su (i64.wrap (deep - 1)) a.2.1 a.2.2.1 a.2.2.2).bind λi=>(M.kF 9 (i64.wrap (51+b.1)) [] [] [] (aB [[D.sl true 5 i.1]])).bind λz=>cond ([[D.sl true 5 z]].all fB) (k (z,i.2)) none) (cond (a.1==6) ((su (i64.wrap (deep - 1)) a.2.1 a.2.2.1 a.2.2.2).bind λm=>(M.kF 10 (i64.wrap (51+b.1)) [] [] [] (aB [[D.sl true 5 m.1]])).bind λF=>cond ([[D.sl true 5 F]].all fB) (k (F,m.2)) none) (cond (a.1==7) (M.KF a bY deep k) (cond (a.1==8) (M.KF a bY deep k) (cond (a.1==9) ((M.ni a.2.1 a.2.2.1 a.2.2.2).bind λs=>(zS 1 2 (i64.wrap (deep - 1)) s.2.1 s.2.2.1 s.2.2.2).bind λd=>(M.kF 13 0 s.1 [] [] (aB d.1)).bind λA=>cond ([[D.sl true 5 A]].all fB) (k (A,d.2)) none) (cond (a.1==10) ((bY (i64.wrap (deep - 1)) a.2.1 a.2.2.1 a.2.2.2).bind λq=>(bY (i64.wrap (deep - 1)) q.2.1 q.2.2.1 q.2.2.2).bind λe=>(bY (i64.wrap (deep - 1)) e.2.1 e.2.2.1 e.2.2.2).bind λy=>(M.kF 14 0 [] [] [] (aB [[D.sl true 5 q.1],[D.sl true 5 e.1],[D.sl true 5 y.1]])).bind λE=>cond ([[D.sl true 5 E]].all fB) (k (E,y.2)) none) (cond (a.1==11) ((M.qC ([[D.int .i64 54],[D.int .i64 38],[D.int .i64 43]]) a.2.1 a.2.2.1 a.2.2.2).bind λw=>(su (i64.wrap (deep - 1)) w.2.1 w.2.2.1 w.2.2.2).bind λr=>(bY (i64.wrap (deep - 1)) r.2.1 r.2.2.1 r.2.2.2).bind λo=>(M.kF 15 w.1 [] [] [] (aB [[D.sl true 5 r.1],[D.sl true 5 o.1]])).bind λI=>cond ([[D.sl true 5 I]].all fB) (k (I,o.2)) none) ((M.DZ a.2.1 a.2.2.1 a.2.2.2).bind λf=>(bY (i64.wrap (deep - 1)) f.2.1 f.2.2.1 f.2.2.2).bind λj=>(bY (i64.wrap (deep - 1)) j.2.1 j.2.2.1 j.2.2.2).bind λg=>(M.kF 12 f.1 [] [] [] (aB [[D.sl true 5 j.1],[D.sl true 5 g.1]])).bind λB=>cond ([[D.sl true 5 B]].all fB) (k (B,g.2)) none)))))))))))))
def C.ajU{su:zae}{bY:zae}{zS:zat}(ah4:S.Fz.ok X0 λx=>su x.1.2.1 x.2.1.1 x.2.1.2.1 x.2.1.2.2.1)(FM:S.ny.ok X0 λx=>bY x.1.2.1 x.2.1.1 x.2.1.2.1 x.2.1.2.2.1)(alr:S.Kz.ok X0 λx=>zS x.1.2.1 x.1.2.2.1 x.1.va.1 x.2.1.1 x.2.1.2.1 x.2.1.2.2.1):S.ny.ok X0 λx=>M.FP su bY zS x.1.2.1 x.2.1.1 x.2.1.2.1 x.2.1.2.2.1 some:=fnS (λx=>M.FP su bY zS x.1.2.1 x.2.1.1 x.2.1.2.1 x.2.1.2.2.1) [fe C.DY,fe C.bM,fe ah4,fe FM,fe C.kF,fe C.ni,fe alr,fe C.dw,fe C.qC,fe C.DZ] [] (by intros;simp only[M.FP,M.KF,nb]<;>rfl)
def M.yK:Nat->(zae)×(zae)×(zat):=Nat.rec (λ_ _ _ _=>none,λ_ _ _ _=>none,λ_ _ _ _ _ _=>none) λ_ qz=>(λdeep c c1 c2=>M.FP qz.2.1 qz.1 qz.2.2 deep c c1 c2 some,λdeep c c1 c2=>M.DJ qz.1 deep c c1 c2 some,λleast most deep c c1 c2=>M.Jr qz.1 least most deep c c1 c2 some)
def M.sW n:=(M.yK n).1
def M.Jb n:=(M.yK n).2.1
def M.Ny n:=(M.yK n).2.2
def M.acG(n:Nat):M.sW (n+1)=λdeep c c1 c2=>M.FP (M.Jb n) (M.sW n) (M.Ny n) deep c c1 c2 some:=rfl
def M.ah5(n:Nat):M.Jb (n+1)=λdeep c c1 c2=>M.DJ (M.sW n) deep c c1 c2 some:=rfl
def M.als(n:Nat):M.Ny (n+1)=λleast most deep c c1 c2=>M.Jr (M.sW n) least most deep c c1 c2 some:=rfl
def M.ny deep c c1 c2:=lim λn=>M.sW n deep c c1 c2
def M.Fz deep c c1 c2:=lim λn=>M.Jb n deep c c1 c2
def M.Kz least most deep c c1 c2:=lim λn=>M.Ny n least most deep c c1 c2
def C.yK:∀n,(S.ny.ok X0 λx=>M.sW n x.1.2.1 x.2.1.1 x.2.1.2.1 x.2.1.2.2.1)/\(S.Fz.ok X0 λx=>M.Jb n x.1.2.1 x.2.1.1 x.2.1.2.1 x.2.1.2.2.1)/\(S.Kz.ok X0 λx=>M.Ny n x.1.2.1 x.1.2.2.1 x.1.va.1 x.2.1.1 x.2.1.2.1 x.2.1.2.2.1)
 |0=>⟨eP.zero,eP.zero,eP.zero⟩
 |n+1=>have h:=C.yK n;⟨C.ajU h.2.1 h.1 h.2.2,C.agC h.1,C.ajT h.1⟩
def C.ny:S.ny.ok X0 λx=>M.ny x.1.2.1 x.2.1.1 x.2.1.2.1 x.2.1.2.2.1:=eP.lim λn=>(C.yK n).1
def M.ajV{n:Nat}{deep:Int}{c:ak}{c1 c2:Int}{r:ak×ak×Int×Int}(h:M.sW n deep c c1 c2=some r):M.ny deep c c1 c2=some r:=eP.Ij (λn=>(C.yK n).1) (by intro a b h;simp[S.ny,sg] at h;first|exact h|simp[Prod.ext_iff,h]) (x:=(((),deep,()),((c,c1,c2,()),()))) h
def C.Fz:S.Fz.ok X0 λx=>M.Fz x.1.2.1 x.2.1.1 x.2.1.2.1 x.2.1.2.2.1:=eP.lim λn=>(C.yK n).2.1
def C.Kz:S.Kz.ok X0 λx=>M.Kz x.1.2.1 x.1.2.2.1 x.1.va.1 x.2.1.1 x.2.1.2.1 x.2.1.2.2.1:=eP.lim λn=>(C.yK n).2.2
abbrev M.aeB(k:Int×Bool×Bool×Bool×Bool->Option R):=k (1,false,false,false,false)
def M.oD:Option (Int×Bool×Bool×Bool×Bool):=M.aeB some
def C.oD:=fTa S.oD (λx=>M.aeB)
abbrev M.Ep(x' low high:Int)(k:Bool->Option R):=cond (decide (x'>=low)) (k (decide (x'<=high))) (k false)
def M.dQ x' low high:=M.Ep x' low high some
def C.dQ:=fTa S.dQ (λx=>M.Ep x.1.1 x.1.2.1 x.1.2.2.1)
def M.BR(l:ak)(i:Int)(x':ak)(s:Int×Int)(kn:Int×Int->Option R)(ke:(Unit)⊕(Int×Int)->Option R):Option R:=match s with
 |(at',k')=>bif decide (k'>=0) then((idx l i).bind λc=>(cSl 1 c 4).bind λd=>(idx d k').bind λf=>(jq .i64 f 0).bind λa=>bif a !=i64.wrap (at' - 1) then(ke (.inl ())) else bif at'==0 then(ke (.inl ())) else (idx x' (i64.wrap (at' - 1))).bind λg=>(x'[(i64.wrap (at' - 1)).toNat]?).bind λe=>(jq .i64 e 0).bind λb=>kn (b,i64.wrap (k' - 1))) else ke (.inr (at',k'))
def M.Ip l i x' s:=M.BR l i x' s (λs=>some (Sum.inl s)) λt=>some (Sum.inr t)
def M.xX l i x' s:=fH (M.Ip l i x') s
def F.xX:LE X0 91:=le 7 (Ik [dA 0 (pL false 5),dA 4 (pO 300000 0),dA 5 pI,dA 6 pI,dA 7 pI] [dA 300000 zbl]) (λx=>(x.1.va.1,x.1.va.2.1)) (λx s=>((x.1.1,(),x.1.2.2.1,s.1,s.2,()),(x.2.1,()))) (λx=> .sum (.leaf (Unit) (λt=>(Ex.ret,⟨[(2,V.own 300000 0),(3,oC false)],[(300000,Cell.arr false true 0 1 [])]⟩))) (.leaf (Int×Int) (λt=>(Ex.exit 2,⟨[(0,DC 5 x.1.1),(4,V.own 300000 0),(5,iE x.1.2.2.1),(6,iE t.1),(7,iE t.2),(24,oC false)],[(300000,Cell.arr false true 0 1 x.2.1)]⟩)))) (λx=>M.BR x.1.1 x.1.2.2.1 x.2.1) [] [] (by rintro _ _ ⟨_,_⟩ _ _<;>simp only[M.BR,nb]<;>rfl)
def M.BU(l:ak)(s:Int×ak)(kn:Int×ak->Option R)(ke:(Unit)⊕(Int×ak)->Option R):Option R:=match s with
 |(i,x')=>bif decide (i<(↑l.length:Int)) then((idx l i).bind λe=>(cSl 1 e 4).bind λc=>(M.xX l i x' (i,i64.wrap ((↑c.length:Int) - 1))).bind λb=>jX b (λf=>ke (.inl ())) λd=>letE d λa=>oq x' [[D.int .i64 a.1]] 8 λg=>kn (i64.wrap (i+1),g)) else ke (.inr (i,x'))
def M.Iq l s:=M.BU l s (λs=>some (Sum.inl s)) λt=>some (Sum.inr t)
def M.xY l s:=fH (M.Iq l) s
def F.xY:LE X0 91:=le 3 (Ik [dA 0 (pL false 5),dA 4 (pO 300000 0),dA 5 pI] [dA 300000 zbl]) (λx=>(x.1.2.2.1,x.2.1)) (λx s=>((x.1.1,(),s.1,()),(s.2,()))) (λx=> .sum (.leaf (Unit) (λt=>(Ex.ret,⟨[(2,V.own 300000 0),(3,oC false)],[(300000,Cell.arr false true 0 1 [])]⟩))) (.leaf (Int×ak) (λt=>(Ex.exit 0,⟨[(0,DC 5 x.1.1),(4,V.own 300000 0),(5,iE t.1),(12,oC false)],[(300000,Cell.arr false true 0 1 t.2)]⟩)))) (λx=>M.BU x.1.1) [] [F.xX] (by rintro _ _ ⟨_,_⟩ _ _<;>simp only[oq,M.BU,nb]<;>rfl)
abbrev M.NU(l:ak)(k:ak×Bool->Option R):=(M.xY l (0,[])).bind λc=>jX c (λd=>k ([],false)) λb=>letE b λa=>cond (aj a.2) (k (a.2,true)) none
def M.FC l:=M.NU l some
def C.FC:=fTa S.FC (λx=>M.NU x.1.1) [] [F.xY]
abbrev M.PV(l:ak)(k:Bool->Option R):=(M.dQ ((↑l.length:Int)) 1 400).bind λc=>cond (!c) (k false) ((M.FC l).bind λa=>cond a.2 ((idx a.1 (i64.wrap ((↑l.length:Int) - 1))).bind λe=>(a.1[(i64.wrap ((↑l.length:Int) - 1)).toNat]?).bind λd=>(jq .i64 d 0).bind λb=>k (b==0)) (k false))
def M.yF l:=M.PV l some
def C.yF:=fTa S.yF (λx=>M.PV x.1.1) [fe C.dQ,fe C.FC]
def M.Es(l:ak)(i:Int)(x':ak)(s:Int×Int)(kn:Int×Int->Option R)(ke:Int×Int->Option R):Option R:=match s with
 |(n',k')=>(idx l i).bind λc=>(cSl 1 c 4).bind λh=>bif decide (k'<(↑h.length:Int)) then((idx l i).bind λd=>(cSl 1 d 4).bind λg=>(idx g k').bind λe=>(jq .i64 e 0).bind λb=>(idx x' b).bind λj=>x'[b.toNat]?.bind λf=>(jq .i64 f 0).bind λa=>kn (bif decide (n'<i64.wrap (1+a)) then i64.wrap (1+a) else n',i64.wrap (k'+1))) else ke (n',k')
def M.JI l i x' s:=M.Es l i x' s (λs=>some (Sum.inl s)) λt=>some (Sum.inr t)
def M.Jc l i x' s:=fH (M.JI l i x') s
def F.Jc:LE X0 54:=le 9 (Ik [dA 0 (pL false 5),dA 3 (pO 300000 0),dA 4 pI,dA 5 pI,dA 6 pI] [dA 300000 zbl]) (λx=>(x.1.va.1,x.1.va.2.1)) (λx s=>((x.1.1,(),x.1.2.2.1,s.1,s.2,()),(x.2.1,()))) (λx=> .leaf (Int×Int) (λt=>(Ex.exit 2,⟨[(0,DC 5 x.1.1),(3,V.own 300000 0),(4,iE x.1.2.2.1),(5,iE t.1),(6,iE t.2),(24,oC false)],[(300000,Cell.arr false true 0 1 x.2.1)]⟩))) (λx=>M.Es x.1.1 x.1.2.2.1 x.2.1) [] [] (by rintro _ _ ⟨_,_⟩ _ _<;>simp only[M.Es,nb]<;>rfl)
def M.Et(l:ak)(s:Int×ak)(kn:Int×ak->Option R)(ke:Int×ak->Option R):Option R:=match s with
 |(i,x')=>bif decide (i<(↑l.length:Int)) then((M.Jc l i x' (1,0)).bind λa=>oq x' [[D.int .i64 a.1]] 8 λb=>kn (i64.wrap (i+1),b)) else ke (i,x')
def M.JJ l s:=M.Et l s (λs=>some (Sum.inl s)) λt=>some (Sum.inr t)
def M.NV l s:=fH (M.JJ l) s
def F.NV:LE X0 54:=le 5 (Ik [dA 0 (pL false 5),dA 3 (pO 300000 0),dA 4 pI] [dA 300000 zbl]) (λx=>(x.1.2.2.1,x.2.1)) (λx s=>((x.1.1,(),s.1,()),(s.2,()))) (λx=> .leaf (Int×ak) (λt=>(Ex.exit 0,⟨[(0,DC 5 x.1.1),(3,V.own 300000 0),(4,iE t.1),(14,oC false)],[(300000,Cell.arr false true 0 1 t.2)]⟩))) (λx=>M.Et x.1.1) [] [F.Jc] (by rintro _ _ ⟨_,_⟩ _ _<;>simp only[oq,M.Et,nb]<;>rfl)
abbrev M.PX(l:ak)(k:Int->Option R):=(M.yF l).bind λc=>cond (!c) (k 0) ((M.NV l (0,[])).bind λa=>(idx a.2 (i64.wrap ((↑l.length:Int) - 1))).bind λe=>(a.2[(i64.wrap ((↑l.length:Int) - 1)).toNat]?).bind λd=>(jq .i64 d 0).bind λb=>k b)
def M.D5 l:=M.PX l some
def C.D5:=fTa S.D5 (λx=>M.PX x.1.1) [fe C.yF] [F.NV]
abbrev M.aS(n' jW:Int)(mZ oP:aC)(sV:ak)(k:Int×Int->Option R):=cond (n'==5) (k (1,6)) (cond (n'==13) (k (1,6)) (cond (n'==7) (k (0,6)) (cond (n'==8) (k (0,6)) (cond (n'==27) (k (0,6)) (cond (n'==6) (k (1,1)) (cond (n'==9) (k (1,1)) (cond (n'==10) (k (1,1)) (cond (n'==11) (k (1,1)) (cond (n'==20) (k (1,1)) (cond (n'==32) (k (1,1)) (cond (n'==40) (k (1,1)) (cond (n'==41) (k (1,1)) (cond (n'==12) (k (2,2)) (cond (n'==15) (k (2,2)) (cond (n'==29) (k (2,2)) (cond (n'==30) (k (2,2)) (cond (n'==14) (k (3,3)) (cond (n'==21) (cond (!oP==[]) (k (i64.wrap (jW+1),7)) (k (jW,6))) (cond (n'==23) (k (0,1)) (cond (n'==24) (k (0,1)) (cond (n'==28) (k (2,3)) (cond (n'==31) (k (4,4)) (cond (n'==33) (k (0,(↑sV.length:Int))) (cond (n'==45) (k (0,(↑sV.length:Int))) (cond (n'==42) (k (i64.wrap (1+i64.wrap (jW.tdiv 3)),i64.wrap (1+i64.wrap (jW.tdiv 3)))) (cond (n'==43) (k (i64.wrap (2+i64.wrap (jW.tdiv 3)),i64.wrap (2+i64.wrap (jW.tdiv 3)))) (cond (n'==44) (k (1,7)) (k (0,0)))))))))))))))))))))))))))))
def M.aZ n' jW mZ oP sV:=M.aS n' jW mZ oP sV some
def C.aZ:=fTa S.aZ (λx=>M.aS x.1.1.1 x.1.1.2.1 x.1.1.2.2.1 x.1.1.va.1 x.1.1.va.2.1)
abbrev M.PY(op':Int)(k:Bool->Option R):=cond (op'==60) (k true) (cond (op'==57) (k true) (cond (op'==58) (k true) (cond (op'==59) (k true) (cond (op'==55) (k true) (cond (op'==56) (k true) (cond (op'==99) (k true) (cond (op'==63) (k true) (cond (op'==48) (k true) (cond (op'==47) (k true) (cond (op'==50) (k true) (cond (op'==62) (k true) (cond (op'==49) (k true) (cond (op'==67) (k true) (cond (op'==46) (k true) (cond (op'==45) (k true) (cond (op'==44) (k true) (k false)))))))))))))))))
def M.D6 op':=M.PY op' some
def C.D6:=fTa S.D6 (λx=>M.PY x.1.1)
abbrev M.JK(op':Int)(k:Bool->Option R):=cond (op'==54) (k true) ((M.dQ op' 38 43).bind λa=>k a)
def M.xw op':=M.JK op' some
def C.xw:=fTa S.xw (λx=>M.JK x.1.1) [fe C.dQ]
abbrev M.bD(n' jW:Int)(mZ oP:aC)(sV:ak)(k:Bool->Option R):=cond (n'==9) (cond (jW==51) (k true) (k (jW==52))) (cond (n'==10) (cond (jW==51) (k true) (k (jW==52))) (cond (n'==11) (cond (jW==55) (k true) (cond (jW==56) (k true) (k (jW==61)))) (cond (n'==12) ((M.D6 jW).bind λb=>k b) (cond (n'==15) ((M.xw jW).bind λd=>k d) (cond (n'==21) ((M.dQ jW 0 1).bind λc=>k c) (cond (n'==42) ((M.dQ jW 1 3).bind λa=>k a) (cond (n'==43) (cond (jW==1) (k true) (k (jW==3))) (k (jW==0)))))))))
def M.bV n' jW mZ oP sV:=M.bD n' jW mZ oP sV some
def C.bV:=fTa S.bV (λx=>M.bD x.1.1.1 x.1.1.2.1 x.1.1.2.2.1 x.1.1.va.1 x.1.1.va.2.1) [fe C.D6,fe C.xw,fe C.dQ]
abbrev M.NW(b:Int)(k:Bool->Option R):=(M.dQ b 97 122).bind λa=>cond a (k true) ((M.dQ b 65 90).bind λc=>cond c (k true) (k (b==95)))
def M.mM b:=M.NW b some
def C.mM:=fTa S.mM (λx=>M.NW x.1.1) [fe C.dQ]
abbrev M.PZ(b:Int)(k:Bool->Option R):=(M.dQ b 48 57).bind λa=>k a
def M.tH b:=M.PZ b some
def C.tH:=fTa S.tH (λx=>M.PZ x.1.1) [fe C.dQ]
abbrev M.JL(b:Int)(k:Bool->Option R):=(M.mM b).bind λa=>cond a (k true) ((M.tH b).bind λc=>k c)
def M.jG b:=M.JL b some
def C.jG:=fTa S.jG (λx=>M.JL x.1.1) [fe C.mM,fe C.tH]
def M.zW(s':aC)(s:Int)(kn:Int->Option R)(ke:(Unit)⊕(Int)->Option R):Option R:=match s with
 |i=>bif decide (i<(↑s'.length:Int)) then((idx s' i).bind λa=>(M.jG (i64.wrap (↑a.toNat:Int))).bind λb=>bif !b then(ke (.inl ())) else kn (i64.wrap (i+1))) else ke (.inr i)
def M.F6 s' s:=M.zW s' s (λs=>some (Sum.inl s)) λt=>some (Sum.inr t)
def M.JM s' s:=fH (M.F6 s') s
def F.JM:LE X0 44:=le 2 (Ik [dA 0 pS,dA 3 pI] []) (λx=>x.1.2.1) (λx s=>((x.1.1,s,()),())) (λx=> .sum (.leaf (Unit) (λt=>(Ex.ret,⟨[(2,oC false)],[]⟩))) (.leaf (Int) (λt=>(Ex.exit 0,⟨[(0,qw x.1.1),(3,iE t),(7,oC false)],[]⟩)))) (λx=>M.zW x.1.1) [fe C.jG] [] (by rintro _ _ _ _ _<;>simp only[M.zW,nb]<;>rfl)
abbrev M.LK(s':aC)(k:Bool->Option R):=(M.JM s' 0).bind λb=>jX b (λf=>k false) λd=>letE d λg=>(M.dQ ((↑s'.length:Int)) 1 12).bind λe=>cond e ((idx s' 0).bind λa=>(M.mM (i64.wrap (↑a.toNat:Int))).bind λc=>k c) (k false)
def M.qE s':=M.LK s' some
def C.qE:=fTa S.qE (λx=>M.LK x.1.1) [fe C.dQ,fe C.mM] [F.JM]
abbrev M.VQ(k:ak->Option R):=k ([[D.str [66,69,71,73,78]],[D.str [69,78,68]],[D.str [102,117,110,99,116,105,111,110]],[D.str [105,102]],[D.str [101,108,115,101]],[D.str [119,104,105,108,101]],[D.str [102,111,114]],[D.str [100,111]],[D.str [98,114,101,97,107]],[D.str [99,111,110,116,105,110,117,101]],[D.str [110,101,120,116]],[D.str [101,120,105,116]],[D.str [114,101,116,117,114,110]],[D.str [100,101,108,101,116,101]],[D.str [105,110]],[D.str [112,114,105,110,116]],[D.str [112,114,105,110,116,102]]])
def M.Aw:Option (ak):=M.VQ some
def C.Aw:=fTa S.Aw (λx=>M.VQ)
def M.Gz(l:ak)(s':aC)(s:Int)(kn:Int->Option R)(ke:(Int)⊕(Int)->Option R):Option R:=match s with
 |i=>bif decide (i<(↑l.length:Int)) then((idx l i).bind λa=>(cStr a 0).bind λb=>bif b==s' then(ke (.inl i)) else kn (i64.wrap (i+1))) else ke (.inr i)
def M.LM l s' s:=M.Gz l s' s (λs=>some (Sum.inl s)) λt=>some (Sum.inr t)
def M.P5 l s' s:=fH (M.LM l s') s
def F.P5:LE X0 126:=le 2 (Ik [dA 0 (pL false 1),dA 1 pS,dA 5 pI] []) (λx=>x.1.2.2.1) (λx s=>((x.1.1,x.1.2.1,s,()),())) (λx=> .sum (.leaf (Int) (λt=>(Ex.ret,⟨[(4,iE t)],[]⟩))) (.leaf (Int) (λt=>(Ex.exit 0,⟨[(0,DC 1 x.1.1),(1,qw x.1.2.1),(5,iE t),(9,oC false)],[]⟩)))) (λx=>M.Gz x.1.1 x.1.2.1) [] [] (by rintro _ _ _ _ _<;>simp only[M.Gz,nb]<;>rfl)
abbrev M.SY(l:ak)(s':aC)(k:Int->Option R):=(M.P5 l s' 0).bind λb=>jX b (λa=>k a) λc=>letE c λd=>k (-1)
def M.Bo l s':=M.SY l s' some
def C.Bo:=fTa S.Bo (λx=>M.SY x.1.1 x.1.2.1) [] [F.P5]
abbrev M.LP(s':aC)(k:Int->Option R):=M.Aw.bind λb=>(M.Bo b s').bind λa=>cond (decide (a<0)) (k 0) (k (i64.wrap (10+a)))
def M.qF s':=M.LP s' some
def C.qF:=fTa S.qF (λx=>M.LP x.1.1) [fe C.Aw,fe C.Bo]
abbrev M.JO(k:ak->Option R):=k ([[D.str [97,116,97,110,50]],[D.str [99,108,111,115,101]],[D.str [99,111,115]],[D.str [101,120,112]],[D.str [103,115,117,98]],[D.str [105,110,100,101,120]],[D.str [105,110,116]],[D.str [108,101,110,103,116,104]],[D.str [108,111,103]],[D.str [109,97,116,99,104]],[D.str [114,97,110,100]],[D.str [115,105,110]],[D.str [115,112,108,105,116]],[D.str [115,112,114,105,110,116,102]],[D.str [115,113,114,116]],[D.str [115,114,97,110,100]],[D.str [115,117,98]],[D.str [115,117,98,115,116,114]],[D.str [115,121,115,116,101,109]],[D.str [116,111,108,111,119,101,114]],[D.str [116,111,117,112,112,101,114]]])
def M.qR:Option (ak):=M.JO some
def C.qR:=fTa S.qR (λx=>M.JO)
abbrev M.LQ(s':aC)(k:Bool->Option R):=M.qR.bind λb=>(M.Bo b s').bind λa=>k (decide (a>=0))
def M.kV s':=M.LQ s' some
def C.kV:=fTa S.kV (λx=>M.LQ x.1.1) [fe C.qR,fe C.Bo]
abbrev M.S9(s':aC)(k:Bool->Option R):=(M.qE s').bind λb=>cond b ((M.qF s').bind λc=>cond (c==0) ((M.kV s').bind λa=>k !a) (k false)) (k false)
def M.kG s':=M.S9 s' some
def C.kG:=fTa S.kG (λx=>M.S9 x.1.1) [fe C.qE,fe C.qF,fe C.kV]
def M.Eu(s':aC)(s:Int)(kn:Int->Option R)(ke:(Unit)⊕(Int)->Option R):Option R:=match s with
 |i=>bif decide (i<(↑s'.length:Int)) then((idx s' i).bind λa=>bif(↑a.toNat:Int)==10 then(ke (.inl ())) else kn (i64.wrap (i+1))) else ke (.inr i)
def M.Ew s' s:=M.Eu s' s (λs=>some (Sum.inl s)) λt=>some (Sum.inr t)
def M.NY s' s:=fH (M.Ew s') s
def F.NY:LE X0 169:=le 2 (Ik [dA 0 pS,dA 3 pI] []) (λx=>x.1.2.1) (λx s=>((x.1.1,s,()),())) (λx=> .sum (.leaf (Unit) (λt=>(Ex.ret,⟨[(2,oC false)],[]⟩))) (.leaf (Int) (λt=>(Ex.exit 0,⟨[(0,qw x.1.1),(3,iE t),(7,oC false)],[]⟩)))) (λx=>M.Eu x.1.1) [] [] (by rintro _ _ _ _ _<;>simp only[M.Eu,nb]<;>rfl)
abbrev M.P6(s':aC)(k:Bool->Option R):=(M.NY s' 0).bind λb=>jX b (λc=>k false) λa=>letE a λd=>k true
def M.yG s':=M.P6 s' some
def C.yG:=fTa S.yG (λx=>M.P6 x.1.1) [] [F.NY]
abbrev M.Tc(s':aC)(at':Int)(k:Int->Option R):=cond (decide (at'<0)) (k (-1)) (cond (decide (at'>=(↑s'.length:Int))) (k (-1)) ((idx s' at').bind λa=>k (i64.wrap (↑a.toNat:Int))))
def M.fZ s' at':=M.Tc s' at' some
def C.fZ:=fTa S.fZ (λx=>M.Tc x.1.1 x.1.2.1)
def M.Ir(s':aC)(s:Int)(kn:Int->Option R)(ke:Int->Option R):Option R:=match s with
 |at'=>(M.fZ s' at').bind λb=>(M.tH b).bind λa=>bif a then(kn (i64.wrap (at'+1))) else ke at'
def M.VR s' s:=M.Ir s' s (λs=>some (Sum.inl s)) λt=>some (Sum.inr t)
def M.LU s' s:=fH (M.VR s') s
def F.LU:LE X0 76:=le 1 (Ik [dA 0 pS,dA 1 pI] []) (λx=>x.1.2.1) (λx s=>((x.1.1,s,()),())) (λx=> .leaf (Int) (λt=>(Ex.exit 0,⟨[(0,qw x.1.1),(1,iE t),(8,oC false)],[]⟩))) (λx=>M.Ir x.1.1) [fe C.fZ,fe C.tH] [] (by rintro _ _ _ _ _<;>simp only[M.Ir,nb]<;>rfl)
abbrev M.NZ(s':aC)(at':Int)(k:Int->Option R):=(M.LU s' at').bind λa=>k a
def M.fM s' at':=M.NZ s' at' some
def C.fM:=fTa S.fM (λx=>M.NZ x.1.1 x.1.2.1) [] [F.LU]
abbrev M.yU(s':aC)(QY:Int)(k:Int->Option R):=(M.fZ s' (i64.wrap (QY+1))).bind λd=>cond (d==43) ((M.fM s' (i64.wrap (i64.wrap (QY+1)+1))).bind λc=>cond (decide (c>i64.wrap (i64.wrap (QY+1)+1))) ((M.fM s' (i64.wrap (i64.wrap (QY+1)+1))).bind λh=>k h) (k QY)) ((M.fZ s' (i64.wrap (QY+1))).bind λg=>cond (g==45) ((M.fM s' (i64.wrap (i64.wrap (QY+1)+1))).bind λf=>cond (decide (f>i64.wrap (i64.wrap (QY+1)+1))) ((M.fM s' (i64.wrap (i64.wrap (QY+1)+1))).bind λe=>k e) (k QY)) ((M.fM s' (i64.wrap (QY+1))).bind λb=>cond (decide (b>i64.wrap (QY+1))) ((M.fM s' (i64.wrap (QY+1))).bind λa=>k a) (k QY)))
def M.Td(s':aC)(at':Int)(k:Int->Option R):=cond (decide (at'<0)) (k (-1)) ((M.fM s' at').bind λa=>(M.fZ s' a).bind λh=>cond (h==46) ((M.fM s' (i64.wrap (a+1))).bind λb=>cond (a==at') (cond (b==i64.wrap (a+1)) (k (-1)) (cond (b==at') (k (-1)) ((M.fZ s' b).bind λf=>cond (f==101) (M.yU s' b k) ((M.fZ s' b).bind λe=>cond (e==69) (M.yU s' b k) (k b))))) (cond (b==at') (k (-1)) ((M.fZ s' b).bind λg=>cond (g==101) (M.yU s' b k) ((M.fZ s' b).bind λd=>cond (d==69) (M.yU s' b k) (k b))))) (cond (a==at') (k (-1)) ((M.fZ s' a).bind λi=>cond (i==101) (M.yU s' a k) ((M.fZ s' a).bind λc=>cond (c==69) (M.yU s' a k) (k a)))))
def M.yP s' at':=M.Td s' at' some
def C.yP:S.yP.ok X0 λx=>M.yP x.1.1 x.1.2.1:=fnS (λx=>M.Td x.1.1 x.1.2.1) [fe C.fM,fe C.fZ] [] (by intros;unfold M.Td M.yU;exact zbK)
def M.xZ(s':aC)(sign s:Int)(kn:Int->Option R)(ke:(Int)⊕(Int)->Option R):Option R:=match s with
 |i=>bif decide (i<(↑s'.length:Int)) then((idx s' i).bind λa=>bif i64.wrap (↑a.toNat:Int)==sign then(ke (.inl (i64.wrap (i+1)))) else bif i64.wrap (↑a.toNat:Int)==10 then(ke (.inl (-1))) else bif i64.wrap (↑a.toNat:Int)==92 then((M.fZ s' (i64.wrap (i+1))).bind λb=>bif b==10 then(ke (.inl (-1))) else kn (i64.wrap (i64.wrap (i+1)+1))) else kn (i64.wrap (i+1))) else ke (.inr i)
def M.BX s' sign s:=M.xZ s' sign s (λs=>some (Sum.inl s)) λt=>some (Sum.inr t)
def M.x8 s' sign s:=fH (M.BX s' sign) s
def F.x8:LE X0 77:=le 4 (Ik [dA 0 pS,dA 2 pI,dA 7 pI] []) (λx=>x.1.2.2.1) (λx s=>((x.1.1,x.1.2.1,s,()),())) (λx=> .sum (.leaf (Int) (λt=>(Ex.ret,⟨[(6,iE t)],[]⟩))) (.leaf (Int) (λt=>(Ex.exit 0,⟨[(0,qw x.1.1),(2,iE x.1.2.1),(7,iE t),(18,oC false)],[]⟩)))) (λx=>M.xZ x.1.1 x.1.2.1) [fe C.fZ] [] (by rintro _ _ _ _ _<;>simp only[M.xZ,nb]<;>rfl)
abbrev M.N7(s':aC)(at' sign:Int)(k:Int->Option R):=(M.fZ s' at').bind λb=>cond (b !=sign) (k (-1)) ((M.x8 s' sign (i64.wrap (at'+1))).bind λa=>jX a (λd=>k d) λc=>letE c λe=>k (-1))
def M.vI s' at' sign:=M.N7 s' at' sign some
def C.vI:=fTa S.vI (λx=>M.N7 x.1.1 x.1.2.1 x.1.2.2.1) [fe C.fZ] [F.x8]
abbrev M.Tf(s':aC)(at':Int)(k:Int->Option R):=(M.vI s' at' 34).bind λa=>k a
def M.Bq s' at':=M.Tf s' at' some
def C.Bq:=fTa S.Bq (λx=>M.Tf x.1.1 x.1.2.1) [fe C.vI]
abbrev M.Ti(s':aC)(at':Int)(k:Int->Option R):=(M.vI s' at' 47).bind λa=>cond (a==i64.wrap (at'+2)) (k (-1)) (k a)
def M.Bv s' at':=M.Ti s' at' some
def C.Bv:=fTa S.Bv (λx=>M.Ti x.1.1 x.1.2.1) [fe C.vI]
abbrev M.VT(k:ak->Option R):=k ([[D.str [123]],[D.str [125]],[D.str [40]],[D.str [41]],[D.str [91]],[D.str [93]],[D.str [44]],[D.str [59]],[D.str [43,61]],[D.str [45,61]],[D.str [42,61]],[D.str [47,61]],[D.str [37,61]],[D.str [94,61]],[D.str [124,124]],[D.str [38,38]],[D.str [33,126]],[D.str [61,61]],[D.str [60,61]],[D.str [62,61]],[D.str [33,61]],[D.str [43,43]],[D.str [45,45]],[D.str [62,62]],[D.str [61]],[D.str [43]],[D.str [45]],[D.str [42]],[D.str [47]],[D.str [37]],[D.str [94]],[D.str [33]],[D.str [62]],[D.str [60]],[D.str [124]],[D.str [63]],[D.str [58]],[D.str [126]],[D.str [36]]])
def M.Az:Option (ak):=M.VT some
def C.Az:=fTa S.Az (λx=>M.VT)
abbrev M.P7(kind:Int)(k:aC->Option R):=cond (kind==1) (k [10]) ((M.dQ kind 10 26).bind λd=>cond d (M.Aw.bind λb=>(idx b (i64.wrap (kind - 10))).bind λi=>(b[(i64.wrap (kind - 10)).toNat]?).bind λf=>(cStr f 0).bind λh=>k h) ((M.dQ kind 30 68).bind λc=>cond c (M.Az.bind λa=>(idx a (i64.wrap (kind - 30))).bind λj=>(a[(i64.wrap (kind - 30)).toNat]?).bind λe=>(cStr e 0).bind λg=>k g) (k [])))
def M.jo kind:=M.P7 kind some
def C.jo:=fTa S.jo (λx=>M.P7 x.1.1) [fe C.dQ,fe C.Aw,fe C.Az]
abbrev M.P8(t':Int)(Du:aC)(Nz:Int)(k:Bool->Option R):=cond (t'==2) (cond (decide ((↑Du.length:Int)>0)) ((idx Du 0).bind λi=>cond ((↑i.toNat:Int)==35) ((M.yG Du).bind λc=>k c) (k false)) (k false)) (cond (t'==3) (cond (decide ((↑Du.length:Int)>0)) ((M.yP Du 0).bind λb=>k (b==(↑Du.length:Int))) (k false)) (cond (t'==4) ((M.Bq Du 0).bind λf=>k (f==(↑Du.length:Int))) (cond (t'==5) ((M.Bv Du 0).bind λe=>k (e==(↑Du.length:Int))) (cond (t'==6) ((M.kG Du).bind λh=>k h) (cond (t'==7) ((M.kG Du).bind λg=>k g) (cond (t'==8) ((M.kV Du).bind λd=>k d) (cond (!Du==[]) ((M.jo t').bind λa=>k (a==Du)) (k false))))))))
def M.nJ t' Du Nz:=M.P8 t' Du Nz some
def C.nJ:=fTa S.nJ (λx=>M.P8 x.1.1.1 x.1.1.2.1 x.1.1.2.2.1) [fe C.yG,fe C.yP,fe C.Bq,fe C.Bv,fe C.kG,fe C.kV,fe C.jo]
abbrev M.aU(n' jW:Int)(mZ oP:aC)(sV:ak)(k:Bool->Option R):=cond (n'==1) ((M.kG mZ).bind λc=>cond c (k (oP==[])) (k false)) (cond (n'==5) ((M.kG mZ).bind λf=>cond f (k (oP==[])) (k false)) (cond (n'==7) ((M.kG mZ).bind λi=>cond i (k (oP==[])) (k false)) (cond (n'==13) ((M.kG mZ).bind λj=>cond j (k (oP==[])) (k false)) (cond (n'==27) ((M.kG mZ).bind λg=>cond g (k (oP==[])) (k false)) (cond (n'==44) ((M.kG mZ).bind λh=>cond h (k (oP==[])) (k false)) (cond (n'==2) ((M.nJ 3 mZ 0).bind λe=>cond e (k (oP==[])) (k false)) (cond (n'==3) ((M.nJ 4 mZ 0).bind λm=>cond m (k (oP==[])) (k false)) (cond (n'==4) ((M.nJ 5 mZ 0).bind λb=>cond b (k (oP==[])) (k false)) (cond (n'==34) ((M.nJ 2 mZ 0).bind λa=>cond a (k (oP==[])) (k false)) (cond (n'==8) ((M.kV mZ).bind λd=>cond d (k (oP==[])) (k false)) (cond (n'==32) ((M.kG mZ).bind λl=>cond l ((M.kG oP).bind λn=>k n) (k false)) (cond (n'==21) (cond (mZ==[]) (cond (oP==[]) (k true) (cond (oP==[62]) (k true) (cond (oP==[62,62]) (k true) (k (oP==[124]))))) (k false)) (cond (mZ==[]) (k (oP==[])) (k false))))))))))))))
def M.bg n' jW mZ oP sV:=M.aU n' jW mZ oP sV some
def C.bg:=fTa S.bg (λx=>M.aU x.1.1.1 x.1.1.2.1 x.1.1.2.2.1 x.1.1.va.1 x.1.1.va.2.1) [fe C.kG,fe C.nJ,fe C.kV]
abbrev M.aK(n' jW:Int)(mZ oP:aC)(sV:ak)(k:Bool->Option R):=(M.aZ n' jW mZ oP sV).bind λa=>(M.dQ n' 1 16).bind λe=>cond e ((M.bV n' jW mZ oP sV).bind λj=>cond j ((M.bg n' jW mZ oP sV).bind λg=>cond g ((M.dQ ((↑sV.length:Int)) a.1 a.2).bind λb=>k b) (k false)) (k false)) ((M.dQ n' 20 34).bind λc=>cond c ((M.bV n' jW mZ oP sV).bind λi=>cond i ((M.bg n' jW mZ oP sV).bind λn=>cond n ((M.dQ ((↑sV.length:Int)) a.1 a.2).bind λf=>k f) (k false)) (k false)) ((M.dQ n' 40 45).bind λd=>cond d ((M.bV n' jW mZ oP sV).bind λh=>cond h ((M.bg n' jW mZ oP sV).bind λl=>cond l ((M.dQ ((↑sV.length:Int)) a.1 a.2).bind λm=>k m) (k false)) (k false)) (k false)))
def M.aG n' jW mZ oP sV:=M.aK n' jW mZ oP sV some
def C.aG:=fTa S.aG (λx=>M.aK x.1.1.1 x.1.1.2.1 x.1.1.2.2.1 x.1.1.va.1 x.1.1.va.2.1) [fe C.aZ,fe C.dQ,fe C.bV,fe C.bg]
abbrev M.N8(kind:Int)(k:Bool->Option R):=cond (kind==1) (k true) (cond (kind==5) (k true) (k (kind==6)))
def M.vJ kind:=M.N8 kind some
def C.vJ:=fTa S.vJ (λx=>M.N8 x.1.1)
abbrev M.Tj(kind:Int)(k:Bool->Option R):=(M.dQ kind 1 15).bind λa=>k a
def M.lC kind:=M.Tj kind some
def C.lC:=fTa S.lC (λx=>M.Tj x.1.1) [fe C.dQ]
abbrev M.Tq(kind:Int)(k:Bool->Option R):=(M.dQ kind 20 34).bind λa=>k a
def M.H9 kind:=M.Tq kind some
def C.H9:=fTa S.H9 (λx=>M.Tq x.1.1) [fe C.dQ]
abbrev M.aP(jW k':Int)(sV:ak)(kind:Int)(k:Bool->Option R):=cond (jW==3) (cond (k'==i64.wrap ((↑sV.length:Int) - 1)) (cond (kind==33) (k true) (cond (!k'==i64.wrap ((↑sV.length:Int) - 1)) ((M.lC kind).bind λa=>k a) (k false))) (cond (!k'==i64.wrap ((↑sV.length:Int) - 1)) ((M.lC kind).bind λb=>k b) (k false))) (k false)
def M.aX(n' jW:Int)(mZ oP:aC)(sV:ak)(k' kind:Int)(k:Bool->Option R):=cond (n'==9) ((M.vJ kind).bind λb=>k b) (cond (n'==10) ((M.vJ kind).bind λe=>k e) (cond (n'==15) ((M.lC kind).bind λi=>cond i (cond (decide (k'>0)) (k true) ((M.vJ kind).bind λd=>k d)) (k false)) (cond (n'==28) (cond (k'==0) ((M.lC kind).bind λa=>cond a (k true) (cond (decide (k'>0)) (k (kind==33)) (k false))) (cond (decide (k'>0)) (k (kind==33)) (k false))) (cond (n'==29) (cond (k'==0) ((M.lC kind).bind λo=>cond o (k true) (cond (k'==1) (k (kind==33)) (k false))) (cond (k'==1) (k (kind==33)) (k false))) (cond (n'==30) (cond (k'==0) (cond (kind==33) (k true) (cond (k'==1) ((M.lC kind).bind λm=>k m) (k false))) (cond (k'==1) ((M.lC kind).bind λl=>k l) (k false))) (cond (n'==31) (cond (decide (k'<3)) ((M.lC kind).bind λf=>cond f (k true) (cond (kind==16) (k true) (cond (k'==3) (k (kind==33)) (k false)))) (cond (k'==3) (k (kind==33)) (k false))) (cond (n'==32) (k (kind==33)) (cond (n'==40) (k (kind==33)) (cond (n'==41) (k (kind==33)) (cond (n'==33) ((M.H9 kind).bind λn=>k n) (cond (n'==42) (cond (jW==1) ((M.lC kind).bind λc=>cond c (k true) (cond (jW==2) (cond (kind==33) (k true) (M.aP jW k' sV kind k)) (M.aP jW k' sV kind k))) (cond (jW==2) (cond (kind==33) (k true) (M.aP jW k' sV kind k)) (M.aP jW k' sV kind k))) (cond (n'==43) (cond (decide (k'<2)) ((M.lC kind).bind λj=>cond j (k true) (cond (k'==2) (k (kind==33)) (k false))) (cond (k'==2) (k (kind==33)) (k false))) (cond (n'==44) (cond (k'==i64.wrap ((↑sV.length:Int) - 1)) (cond (kind==33) (k true) (cond (!k'==i64.wrap ((↑sV.length:Int) - 1)) (k (kind==1)) (k false))) (cond (!k'==i64.wrap ((↑sV.length:Int) - 1)) (k (kind==1)) (k false))) (cond (n'==45) ((M.dQ kind 40 44).bind λg=>cond g (k true) (k (kind==34))) ((M.lC kind).bind λh=>k h)))))))))))))))
def M.aW n' jW mZ oP sV k' kind:=M.aX n' jW mZ oP sV k' kind some
def C.aW:S.aW.ok X0 λx=>lU M.aW x.1.1 x.1.2.1 x.1.2.2.1:=fnS (λx=>M.aX x.1.1.1 x.1.1.2.1 x.1.1.2.2.1 x.1.1.va.1 x.1.1.va.2.1 x.1.2.1 x.1.2.2.1) [fe C.vJ,fe C.lC,fe C.H9,fe C.dQ] [] (by intros;unfold M.aX M.aP;exact zbK)
def M.GH(l:ak)(i s:Int)(kn:Int->Option R)(ke:(Unit)⊕(Int)->Option R):Option R:=match s with
 |k'=>(idx l i).bind λg=>(cSl 1 g 4).bind λj=>bif decide (k'<(↑j.length:Int)) then((idx l i).bind λe=>Gw 1 e λn306 n307 aW5 aW6 aB8=>((idx l i).bind λh=>(cSl 1 h 4).bind λk=>(idx k k').bind λf=>(jq .i64 f 0).bind λb=>(idx l b).bind λd=>(jq .i64 d 0).bind λa=>(M.aW n306 n307 aW5 aW6 aB8 k' a).bind λc=>bif !c then(ke (.inl ())) else kn (i64.wrap (k'+1)))) else ke (.inr k')
def M.RQ l i s:=M.GH l i s (λs=>some (Sum.inl s)) λt=>some (Sum.inr t)
def M.KG l i s:=fH (M.RQ l i) s
def F.KG:LE X0 25:=le 9 (Ik [dA 0 (pL false 5),dA 3 pI,dA 4 pI] []) (λx=>x.1.2.2.1) (λx s=>((x.1.1,x.1.2.1,s,()),())) (λx=> .sum (.leaf (Unit) (λt=>(Ex.ret,⟨[(2,oC false)],[]⟩))) (.leaf (Int) (λt=>(Ex.exit 2,⟨[(0,DC 5 x.1.1),(3,iE x.1.2.1),(4,iE t),(32,oC false)],[]⟩)))) (λx=>M.GH x.1.1 x.1.2.1) [fe C.aW] [] (by rintro _ _ _ _ _<;>simp only[Gw,M.GH,nb]<;>rfl)
def M.GI(l:ak)(s:Int)(kn:Int->Option R)(ke:(Unit)⊕(Int)->Option R):Option R:=match s with
 |i=>bif decide (i<(↑l.length:Int)) then((idx l i).bind λa=>Gw 1 a λn145 n146 aW8 aW9 aCa=>((M.aG n145 n146 aW8 aW9 aCa).bind λb=>bif !b then(ke (.inl ())) else (M.KG l i 0).bind λc=>jX c (λe=>ke (.inl ())) λd=>letE d λf=>kn (i64.wrap (i+1)))) else ke (.inr i)
def M.RU l s:=M.GI l s (λs=>some (Sum.inl s)) λt=>some (Sum.inr t)
def M.KH l s:=fH (M.RU l) s
def F.KH:LE X0 25:=le 4 (Ik [dA 0 (pL false 5),dA 3 pI] []) (λx=>x.1.2.1) (λx s=>((x.1.1,s,()),())) (λx=> .sum (.leaf (Unit) (λt=>(Ex.ret,⟨[(2,oC false)],[]⟩))) (.leaf (Int) (λt=>(Ex.exit 0,⟨[(0,DC 5 x.1.1),(3,iE t),(16,oC false)],[]⟩)))) (λx=>M.GI x.1.1) [fe C.aG] [F.KG] (by rintro _ _ _ _ _<;>simp only[Gw,M.GI,nb]<;>rfl)
abbrev M.Tt(l:ak)(k:Bool->Option R):=(M.yF l).bind λc=>cond (!c) (k false) ((M.D5 l).bind λa=>cond (decide (a>40)) (k false) ((M.KH l 0).bind λd=>jX d (λe=>k false) λb=>letE b λf=>k true))
def M.Bz l:=M.Tt l some
def C.Bz:=fTa S.Bz (λx=>M.Tt x.1.1) [fe C.yF,fe C.D5] [F.KH]
abbrev M.Tv(l:ak)(k:Bool->Option R):=(M.Bz l).bind λc=>cond c ((idx l (i64.wrap ((↑l.length:Int) - 1))).bind λb=>(jq .i64 b 0).bind λd=>(M.lC d).bind λa=>k a) (k false)
def M.KA l:=M.Tv l some
def C.KA:=fTa S.KA (λx=>M.Tv x.1.1) [fe C.Bz,fe C.lC]
abbrev M.Vk(p:Int)(p1 p2 p3 p4:Bool)(k:Bool->Option R):=(M.dQ p 1 15).bind λa=>cond a (cond (!p1) (k true) (k (p==14))) (k false)
def M.xU p p1 p2 p3 p4:=M.Vk p p1 p2 p3 p4 some
def C.xU:=fTa S.xU (λx=>M.Vk x.1.1.1 x.1.1.2.1 x.1.1.2.2.1 x.1.1.va.1 x.1.1.va.2.1) [fe C.dQ]
abbrev M.P9(op':Int)(k:Int->Option R):=cond (op'==44) (k 3) (cond (op'==45) (k 4) (cond (op'==67) (k 6) (cond (op'==46) (k 6) (cond (op'==63) (k 7) (cond (op'==48) (k 7) (cond (op'==47) (k 7) (cond (op'==50) (k 7) (cond (op'==62) (k 7) (cond (op'==49) (k 7) (cond (op'==99) (k 8) (cond (op'==55) (k 9) (cond (op'==56) (k 9) (cond (op'==57) (k 10) (cond (op'==58) (k 10) (cond (op'==59) (k 10) (cond (op'==60) (k 12) (k 0)))))))))))))))))
def M.vV op':=M.P9 op' some
def C.vV:=fTa S.vV (λx=>M.P9 x.1.1)
abbrev M.Qa(n' jW:Int)(mZ oP:aC)(sV:ak)(k:Int->Option R):=cond (n'==15) (k 1) (cond (n'==14) (k 2) (cond (n'==13) (k 5) (cond (n'==12) ((M.vV jW).bind λa=>k a) (cond (n'==11) (k 11) (cond (n'==9) (k 13) (cond (n'==10) (k 13) (cond (n'==6) (k 14) (cond (n'==1) (k 15) (cond (n'==2) (k 15) (cond (n'==3) (k 15) (cond (n'==4) (k 15) (cond (n'==5) (k 15) (cond (n'==7) (k 15) (cond (n'==8) (k 15) (k 0)))))))))))))))
def M.nK n' jW mZ oP sV:=M.Qa n' jW mZ oP sV some
def C.nK:=fTa S.nK (λx=>M.Qa x.1.1.1 x.1.1.2.1 x.1.1.2.2.1 x.1.1.va.1 x.1.1.va.2.1) [fe C.vV]
abbrev M.Ey(p4:Bool)(n':Int)(k:Bool->Option R)(p1:Bool)(jW:Int)(mZ oP:aC)(sV:ak)(p:Int):=cond p4 (cond (n'==11) (k false) (cond (n'==9) (k false) (cond (n'==4) (k false) (cond p1 (cond (n'==9) (k true) ((M.nK n' jW mZ oP sV).bind λd=>k (decide (d>=p)))) ((M.nK n' jW mZ oP sV).bind λb=>k (decide (b>=p))))))) (cond p1 (cond (n'==9) (k true) ((M.nK n' jW mZ oP sV).bind λc=>k (decide (c>=p)))) ((M.nK n' jW mZ oP sV).bind λa=>k (decide (a>=p))))
def M.WT(n' jW:Int)(mZ oP:aC)(sV:ak)(p:Int)(p1 p2 p3 p4:Bool)(k:Bool->Option R):=(M.xU p p1 p2 p3 p4).bind λb=>cond (!b) (k false) ((M.nK n' jW mZ oP sV).bind λa=>cond (a==0) (k false) (cond p2 (cond (n'==13) (k false) (cond p3 (cond (n'==12) (cond (jW==62) (k false) (M.Ey p4 n' k p1 jW mZ oP sV p)) (M.Ey p4 n' k p1 jW mZ oP sV p)) (M.Ey p4 n' k p1 jW mZ oP sV p))) (cond p3 (cond (n'==12) (cond (jW==62) (k false) (M.Ey p4 n' k p1 jW mZ oP sV p)) (M.Ey p4 n' k p1 jW mZ oP sV p)) (M.Ey p4 n' k p1 jW mZ oP sV p))))
def M.Jq n' jW mZ oP sV p p1 p2 p3 p4:=M.WT n' jW mZ oP sV p p1 p2 p3 p4 some
def C.Jq:S.Jq.ok X0 λx=>lU (lU M.Jq x.1.1) x.1.2.1:=fnS (λx=>M.WT x.1.1.1 x.1.1.2.1 x.1.1.2.2.1 x.1.1.va.1 x.1.1.va.2.1 x.1.2.1.1 x.1.2.1.2.1 x.1.2.1.2.2.1 x.1.2.1.va.1 x.1.2.1.va.2.1) [fe C.xU,fe C.nK] [] (by intros;unfold M.WT M.Ey;exact zbK)
abbrev M.Qb(n' jW:Int)(mZ oP:aC)(sV:ak)(k:Int×aC×Int->Option R):=cond (n'==1) (k (6,mZ,0)) (cond (n'==2) (k (3,mZ,0)) (cond (n'==3) (k (4,mZ,0)) (cond (n'==4) (k (5,mZ,0)) (k (0,[],0)))))
def M.yH n' jW mZ oP sV:=M.Qb n' jW mZ oP sV some
def C.yH:=fTa S.yH (λx=>M.Qb x.1.1.1 x.1.1.2.1 x.1.1.2.2.1 x.1.1.va.1 x.1.1.va.2.1)
abbrev M.Qc(s':aC)(k:ak->Option R):=k ([[D.int .i64 1,D.int .i64 0,D.str s',D.sl true 1 []]])
def M.fC s':=M.Qc s' some
def C.fC:=fTa S.fC (λx=>M.Qc x.1.1)
abbrev M.Qd(k:ak->Option R):=k ([[D.int .i64 2,D.int .i64 0,D.str [],D.sl true 1 []]])
def M.vW:Option (ak):=M.Qd some
def C.vW:=fTa S.vW (λx=>M.Qd)
def M.BZ(l:ak)(by' i:Int)(x':ak)(oO pX:Int)(tZ:aC)(s:Int×ak)(kn:Int×ak->Option R)(ke:Int×ak->Option R):Option R:=match s with
 |(k',xg)=>(idx l i).bind λa=>(cSl 1 a 3).bind λd=>bif decide (k'<(↑d.length:Int)) then((idx l i).bind λb=>(cSl 1 b 3).bind λc=>(idx c k').bind λe=>(jq .i64 e 0).bind λf=>oq xg [[D.int .i64 (i64.wrap (f+by'))]] 8 λg=>kn (i64.wrap (k'+1),g)) else ke (k',xg)
def M.Iu l by' i x' oO pX tZ s:=M.BZ l by' i x' oO pX tZ s (λs=>some (Sum.inl s)) λt=>some (Sum.inr t)
def M.LV l by' i x' oO pX tZ s:=fH (M.Iu l by' i x' oO pX tZ) s
def F.LV:LE X0 205:=le 8 (Ik [dA 0 (pL false 4),dA 1 pI,dA 5 (pO 300000 0),dA 6 pI,dA 7 (pP 300001 0),dA 8 pI] zbC) (λx=>(x.1.va.2.2.1,x.va.1)) (λx s=>((x.1.1,x.1.2.1,(),x.1.va.1,(),s.1,()),(x.2.1,(x.2.2.1.1,x.2.2.1.2.1,x.2.2.1.2.2.1,(),()),s.2,()))) (λx=> .leaf (Int×ak) (λt=>(Ex.exit 2,⟨[(0,DC 4 x.1.1),(1,iE x.1.2.1),(5,V.own 300000 0),(6,iE x.1.va.1),(7,V.ptr 300001 0),(8,iE t.1),(29,oC false)],[(300000,Cell.arr false false 0 4 x.2.1),(300001,Cell.box 136 [iE x.2.2.1.1,iE x.2.2.1.2.1,qw x.2.2.1.2.2.1,V.own 300002 0]),(300002,Cell.arr false true 0 1 t.2)]⟩))) (λx=>M.BZ x.1.1 x.1.2.1 x.1.va.1 x.2.1 x.2.2.1.1 x.2.2.1.2.1 x.2.2.1.2.2.1) [] [] (by rintro _ _ ⟨_,_⟩ _ _<;>simp only[oq,M.BZ,nb]<;>rfl)
def M.Cb(l:ak)(by':Int)(s:Int×ak)(kn:Int×ak->Option R)(ke:Int×ak->Option R):Option R:=match s with
 |(i,x')=>bif decide (i<(↑l.length:Int)) then((idx l i).bind λa=>(jq .i64 a 0).bind λc=>(jq .i64 a 1).bind λe=>(cStr a 2).bind λb=>(cSl 1 a 3).bind λf=>(M.LV l by' i x' c e b (0,[])).bind λd=>bif aj d.2 then(oq x' [[D.int .i64 c,D.int .i64 e,D.str b,D.sl true 1 d.2]] 56 λg=>kn (i64.wrap (i+1),g)) else none) else ke (i,x')
def M.Iw l by' s:=M.Cb l by' s (λs=>some (Sum.inl s)) λt=>some (Sum.inr t)
def M.LW l by' s:=fH (M.Iw l by') s
def F.LW:LE X0 205:=le 3 (Ik [dA 0 (pL false 4),dA 1 pI,dA 5 (pO 300000 0),dA 6 pI] [dA 300000 (cA false false 0 4)]) (λx=>(x.1.va.1,x.2.1)) (λx s=>((x.1.1,x.1.2.1,(),s.1,()),(s.2,()))) (λx=> .leaf (Int×ak) (λt=>(Ex.exit 0,⟨[(0,DC 4 x.1.1),(1,iE x.1.2.1),(5,V.own 300000 0),(6,iE t.1),(13,oC false)],[(300000,Cell.arr false false 0 4 t.2)]⟩))) (λx=>M.Cb x.1.1 x.1.2.1) [] [F.LV] (by rintro _ _ ⟨_,_⟩ _ _<;>simp only[oq,M.Cb,nb]<;>rfl)
abbrev M.N9(l:ak)(by':Int)(k:ak->Option R):=(M.LW l by' (0,[])).bind λa=>k a.2
def M.vK l by':=M.N9 l by' some
def C.vK:=fTa S.vK (λx=>M.N9 x.1.1 x.1.2.1) [] [F.LW]
def M.zA(s:zaD⊕zaE)(kn:zaD⊕zaE->Option R)(ke:zaD⊕zaE->Option R):Option R:=match s with
 | .inl (parts,k',x',oO,pX,tZ)=>bif decide (k'<(↑parts.length:Int)) then((idx parts k').bind λd=>(cSl 4 d 0).bind λb=>(M.vK b ((↑x'.length:Int))).bind λc=>oq x' c 56 λza=>kn (.inr (parts,i64.wrap (k'+1),za,oO,pX,tZ,[[D.int .i64 (i64.wrap ((↑za.length:Int) - 1))]]))) else(ke (.inl (parts,k',x',oO,pX,tZ)))
 | .inr (parts,k',x',oO,pX,tZ,xg)=>bif decide (k'<(↑parts.length:Int)) then((idx parts k').bind λf=>(cSl 4 f 0).bind λa=>(M.vK a ((↑x'.length:Int))).bind λe=>oq x' e 56 λza=>oq xg [[D.int .i64 (i64.wrap ((↑za.length:Int) - 1))]] 8 λg=>kn (.inr (parts,i64.wrap (k'+1),za,oO,pX,tZ,g))) else ke (.inr (parts,k',x',oO,pX,tZ,xg))
def M.Ez s:=M.zA s (λs=>some (Sum.inl s)) λt=>some (Sum.inr t)
def M.Oa s:=fH (M.Ez) s
def F.Oa:LE X0 189:=le 4 (pOr (Ik zbH [dA 300000 (cA false false 0 4),dA 300001 (cB 136 [pI,pI,pS,Ve 1])]) (Ik zbH zbC)) (σ:=zaD⊕zaE) (λx=>(match x with| .inl x=> .inl ((x.1.1,x.1.va.1,x.2.1,x.2.2.1.1,x.2.2.1.2.1,x.2.2.1.2.2.1))| .inr x=> .inr ((x.1.1,x.1.va.1,x.2.1,x.2.2.1.1,x.2.2.1.2.1,x.2.2.1.2.2.1,x.va.1)))) (λx s=>(match s with| .inl s=> .inl (((s.1,(),(),s.2.1,()),(s.2.2.1,(s.va.1,s.va.2.1,s.va.2.2,(),()),())))| .inr s=> .inr (((s.1,(),(),s.2.1,()),(s.2.2.1,(s.va.1,s.va.2.1,s.va.2.2.1,(),()),s.va.va,()))))) (λx=> .sum (.leaf zaD (λt=>(Ex.exit 0,⟨[(2,DC 1 t.1),(7,V.own 300000 0),(8,V.ptr 300001 0),(9,iE t.2.1),(17,oC false)],[(300000,Cell.arr false false 0 4 t.2.2.1),(300001,Cell.box 136 [iE t.va.1,iE t.va.2.1,qw t.va.2.2,V.nil 1])]⟩))) (.leaf zaE (λt=>(Ex.exit 0,⟨[(2,DC 1 t.1),(7,V.own 300000 0),(8,V.ptr 300001 0),(9,iE t.2.1),(17,oC false)],[(300000,Cell.arr false false 0 4 t.2.2.1),(300001,Cell.box 136 [iE t.va.1,iE t.va.2.1,qw t.va.2.2.1,V.own 300002 0]),(300002,Cell.arr false true 0 1 t.va.va)]⟩)))) (λx=>M.zA) [fe C.vK] [] (by rintro _ _ (⟨_,_,_,_,_,_⟩|⟨_,_,_,_,_,_,_⟩) _ _<;>simp only[oq,M.zA,nb]<;>rfl) (hE:=by intro _ _ s _;rcases s with s|s<;>kernel_rfl)
abbrev M.Qe(kind n':Int)(parts:ak)(k:ak->Option R):=(M.Oa (.inl (parts,0,[],kind,n',[]))).bind λd=>jX d (λb=>oq b.2.2.1 [[D.int .i64 b.2.2.2.1,D.int .i64 b.2.2.2.2.1,D.str b.2.2.2.2.2,D.sl true 1 []]] 56 λza=>k za) λc=>letE c λa=>cond (aj a.2.2.2.2.2.2) (oq a.2.2.1 [[D.int .i64 a.2.2.2.1,D.int .i64 a.2.2.2.2.1,D.str a.2.2.2.2.2.1,D.sl true 1 a.2.2.2.2.2.2]] 56 λza=>k za) none
def M.fP kind n' parts:=M.Qe kind n' parts some
def C.fP:=fTa S.fP (λx=>M.Qe x.1.1 x.1.2.1 x.1.2.2.1) [] [F.Oa]
def M.EC(dn:zab)(kids x':ak)(oO:Bool)(pX:Int)(tZ xg BI F7:Bool)(s:Int×ak)(kn:Int×ak->Option R)(ke:Int×ak->Option R):Option R:=match s with
 |(k',Jw)=>bif decide (k'<(↑kids.length:Int)) then(bif decide (k'>0) then((M.fC [44]).bind λe=>M.vW.bind λd=>oq Jw [[D.sl true 4 e],[D.sl true 4 d]] 24 λza=>(idx kids k').bind λg=>(jq .i64 g 0).bind λc=>(dn x' oO c pX tZ xg BI F7).bind λb=>oq za [[D.sl true 4 b]] 24 λi=>kn (i64.wrap (k'+1),i)) else (idx kids k').bind λh=>(jq .i64 h 0).bind λf=>(dn x' oO f pX tZ xg BI F7).bind λa=>oq Jw [[D.sl true 4 a]] 24 λza=>kn (i64.wrap (k'+1),za)) else ke (k',Jw)
def M.ED dn kids x' oO pX tZ xg BI F7 s:=M.EC dn kids x' oO pX tZ xg BI F7 s (λs=>some (Sum.inl s)) λt=>some (Sum.inr t)
def M.Ob dn kids x' oO pX tZ xg BI F7 s:=fH (M.ED dn kids x' oO pX tZ xg BI F7) s
def F.Ob{dn:zab}(Iy:S.uj.ok X0 λx=>lU (dn x.1.1.1 x.1.1.2.1 x.1.2.1) x.1.2.2.1):LE X0 203:=le 3 (Ik [dA 1 (pL false 1),dA 3 (pP 300000 0),dA 5 (pP 300001 0),dA 7 (pO 300002 0),dA 8 pI] [dA 300000 (cB 140 [pL false 5,pB]),dA 300001 (cB 105 zbs),dA 300002 (cA false false 0 1)]) (λx=>(x.1.va.2.1,x.va.1)) (λx s=>((x.1.1,(),(),(),s.1,()),((x.2.1.1,x.2.1.2.1,()),(x.2.2.1.1,x.2.2.1.2.1,x.2.2.1.2.2.1,x.2.2.1.va.1,x.2.2.1.va.2.1,()),s.2,()))) (λx=> .leaf (Int×ak) (λt=>(Ex.exit 0,⟨[(1,DC 1 x.1.1),(3,V.ptr 300000 0),(5,V.ptr 300001 0),(7,V.own 300002 0),(8,iE t.1),(13,oC false)],[(300000,Cell.box 140 [DC 5 x.2.1.1,oC x.2.1.2.1]),(300001,Cell.box 105 [iE x.2.2.1.1,oC x.2.2.1.2.1,oC x.2.2.1.2.2.1,oC x.2.2.1.va.1,oC x.2.2.1.va.2.1]),(300002,Cell.arr false false 0 1 t.2)]⟩))) (λx=>M.EC dn x.1.1 x.2.1.1 x.2.1.2.1 x.2.2.1.1 x.2.2.1.2.1 x.2.2.1.2.2.1 x.2.2.1.va.1 x.2.2.1.va.2.1) [fe C.fC,fe C.vW,fe Iy] [] (by rintro _ _ ⟨_,_⟩ _ _<;>unfold M.EC<;>exact zbK)
def M.GK(dn:zab)(w:ak)(w1:Bool)(kids:ak)(p:Int)(p1 p2 p3 p4:Bool)(k:ak->Option R):=(M.Ob dn kids w w1 p p1 p2 p3 p4 (0,[])).bind λd=>(M.fP 6 0 (aB d.2)).bind λb=>cond ([[D.sl true 4 b]].all fB) ((M.fP 4 4 (aB [[D.sl true 4 b]])).bind λa=>cond ([[D.sl true 4 a]].all fB) ((M.fP 5 0 (aB [[D.sl true 4 a]])).bind λc=>cond ([[D.sl true 4 c]].all fB) (k c) none) none) none
def C.ah6{dn:zab}(Iy:S.uj.ok X0 λx=>lU (dn x.1.1.1 x.1.1.2.1 x.1.2.1) x.1.2.2.1):S.D7.ok X0 λx=>lU (M.GK dn x.1.1.1 x.1.1.2.1 x.1.2.1) x.1.2.2.1 some:=fnS (λx=>M.GK dn x.1.1.1 x.1.1.2.1 x.1.2.1 x.1.2.2.1.1 x.1.2.2.1.2.1 x.1.2.2.1.2.2.1 x.1.2.2.1.va.1 x.1.2.2.1.va.2.1) [fe C.fP] [F.Ob Iy] (by intros;unfold M.GK;exact zbK)
def M.DK(nU:zam)(w:ak)(w1:Bool)(n' jW:Int)(mZ oP:aC)(sV:ak)(open' end':aC)(k:ak->Option R):=cond ((mZ.length+open'.length).ble 9223372036854775807) ((M.fC (mZ++open')).bind λd=>M.oD.bind λa=>(nU w w1 sV a.1 a.2.1 a.2.2.1 a.2.2.2.1 a.2.2.2.2).bind λc=>(M.fC end').bind λe=>(M.fP 6 0 (aB [[D.sl true 4 d],[D.sl true 4 c],[D.sl true 4 e]])).bind λb=>cond ([[D.sl true 4 b]].all fB) (k b) none) none
def C.agF{nU:zam}(VU:S.D7.ok X0 λx=>lU (nU x.1.1.1 x.1.1.2.1 x.1.2.1) x.1.2.2.1):S.FD.ok X0 λx=>lU (M.DK nU x.1.1.1 x.1.1.2.1) x.1.2.1 x.1.2.2.1 x.1.va.1 some:=fnS (λx=>M.DK nU x.1.1.1 x.1.1.2.1 x.1.2.1.1 x.1.2.1.2.1 x.1.2.1.2.2.1 x.1.2.1.va.1 x.1.2.1.va.2.1 x.1.2.2.1 x.1.va.1) [fe C.fC,fe C.oD,fe VU,fe C.fP] [] (by intros;unfold M.DK;exact zbK)
def M.GL(l9:zab)(w:ak)(w1:Bool)(i:Int)(k:ak->Option R):=(l9 w w1 i 14 false false false false).bind λa=>k a
def C.afq{l9:zab}(VW:S.Ea.ok X0 λx=>lU (l9 x.1.1.1 x.1.1.2.1 x.1.2.1) x.1.2.2.1):S.BP.ok X0 λx=>M.GL l9 x.1.1.1 x.1.1.2.1 x.1.2.1 some:=fnS (λx=>M.GL l9 x.1.1.1 x.1.1.2.1 x.1.2.1) [fe VW] [] (by intros;unfold M.GL;exact zbK)
abbrev M.Qg(op':Int)(k:Int×Int->Option R):=(M.vV op').bind λa=>cond (a==3) (k (3,4)) (cond (a==4) (k (4,5)) (cond (a==6) (k (7,7)) (cond (a==7) (k (8,8)) (cond (a==8) (k (8,9)) (cond (a==9) (k (9,10)) (cond (a==10) (k (10,11)) (k (13,11))))))))
def M.AA op':=M.Qg op' some
def C.AA:=fTa S.AA (λx=>M.Qg x.1.1) [fe C.vV]
abbrev M.Tz(n' jW:Int)(mZ oP:aC)(sV:ak)(k' p:Int)(p1 p2 p3 p4:Bool)(k:Int×Bool×Bool×Bool×Bool->Option R):=(M.xU p p1 p2 p3 p4).bind λh=>cond (!h) (k (0,false,false,false,false)) ((M.dQ k' 0 (i64.wrap ((↑sV.length:Int) - 1))).bind λi=>cond (!i) (k (0,false,false,false,false)) ((M.nK n' jW mZ oP sV).bind λg=>cond (g==0) (k (0,false,false,false,false)) (cond p4 (cond (n'==15) (cond (decide (k'>0)) (k (1,false,p2,p3,k'==0)) (k (14,false,p2,p3,k'==0))) (cond (n'==14) (cond (k'==0) (k (3,false,p2,p3,k'==0)) (k (2,false,p2,p3,k'==0))) (cond (n'==13) (cond (decide ((↑sV.length:Int)>1)) (M.oD.bind λb=>k (b)) (k (5,false,p2,p3,k'==0))) (cond (n'==12) ((M.AA jW).bind λe=>cond (decide (k'>0)) (k (e.2,false,p2,p3,jW==99)) (k (e.1,false,p2,p3,k'==0))) (cond (n'==11) (k (11,false,p2,p3,false)) (cond (n'==9) (k (14,false,p2,p3,false)) (cond (n'==10) (k (14,false,p2,p3,false)) (cond (n'==6) (k (14,true,p2,p3,false)) (M.oD.bind λa=>k (a)))))))))) (cond (n'==15) (cond (decide (k'>0)) (k (1,false,p2,p3,false)) (k (14,false,p2,p3,false))) (cond (n'==14) (cond (k'==0) (k (3,false,p2,p3,false)) (k (2,false,p2,p3,false))) (cond (n'==13) (cond (decide ((↑sV.length:Int)>1)) (M.oD.bind λc=>k (c)) (k (5,false,p2,p3,false))) (cond (n'==12) ((M.AA jW).bind λf=>cond (decide (k'>0)) (k (f.2,false,p2,p3,jW==99)) (k (f.1,false,p2,p3,false))) (cond (n'==11) (k (11,false,p2,p3,false)) (cond (n'==9) (k (14,false,p2,p3,false)) (cond (n'==10) (k (14,false,p2,p3,false)) (cond (n'==6) (k (14,true,p2,p3,false)) (M.oD.bind λd=>k (d)))))))))))))
def M.gJ n' jW mZ oP sV k' p p1 p2 p3 p4:=M.Tz n' jW mZ oP sV k' p p1 p2 p3 p4 some
def C.gJ:=fTa S.gJ (λx=>M.Tz x.1.1.1 x.1.1.2.1 x.1.1.2.2.1 x.1.1.va.1 x.1.1.va.2.1 x.1.2.1 x.1.2.2.1.1 x.1.2.2.1.2.1 x.1.2.2.1.2.2.1 x.1.2.2.1.va.1 x.1.2.2.1.va.2.1) [fe C.xU,fe C.dQ,fe C.nK,fe C.oD,fe C.AA]
abbrev M.TA(kind:Int)(k:Int×aC×Int->Option R):=(M.jo kind).bind λa=>k (kind,a,0)
def M.gq kind:=M.TA kind some
def C.gq:=fTa S.gq (λx=>M.TA x.1.1) [fe C.jo]
def M.EF(dH:zab)(kids x':ak)(oO:Bool)(s:Int×ak)(kn:Int×ak->Option R)(ke:Int×ak->Option R):Option R:=match s with
 |(k',pX)=>bif decide (k'<(↑kids.length:Int)) then(bif decide (k'>0) then((M.gq 36).bind λc=>oq pX [[D.int .i64 c.1,D.str c.2.1,D.int .i64 c.2.2]] 32 λza=>(idx kids k').bind λg=>(jq .i64 g 0).bind λh=>M.oD.bind λa=>(dH x' oO h a.1 a.2.1 a.2.2.1 a.2.2.2.1 a.2.2.2.2).bind λf=>oq za f 32 λj=>kn (i64.wrap (k'+1),j)) else (idx kids k').bind λd=>(jq .i64 d 0).bind λe=>M.oD.bind λb=>(dH x' oO e b.1 b.2.1 b.2.2.1 b.2.2.2.1 b.2.2.2.2).bind λi=>oq pX i 32 λza=>kn (i64.wrap (k'+1),za)) else ke (k',pX)
def M.EH dH kids x' oO s:=M.EF dH kids x' oO s (λs=>some (Sum.inl s)) λt=>some (Sum.inr t)
def M.Oc dH kids x' oO s:=fH (M.EH dH kids x' oO) s
def F.Oc{dH:zab}(Iz:S.vX.ok X0 λx=>lU (dH x.1.1.1 x.1.1.2.1 x.1.2.1) x.1.2.2.1):LE X0 232:=le 3 (Ik zbG [dA 300000 (cB 140 [pL false 5,pB]),dA 300001 (cA false true 0 3)]) (λx=>(x.1.va.1,x.2.2.1)) (λx s=>((x.1.1,(),(),s.1,()),((x.2.1.1,x.2.1.2.1,()),s.2,()))) (λx=> .leaf (Int×ak) (λt=>(Ex.exit 0,⟨[(1,DC 1 x.1.1),(2,V.ptr 300000 0),(5,V.own 300001 0),(6,iE t.1),(11,oC false)],[(300000,Cell.box 140 [DC 5 x.2.1.1,oC x.2.1.2.1]),(300001,Cell.arr false true 0 3 t.2)]⟩))) (λx=>M.EF dH x.1.1 x.2.1.1 x.2.1.2.1) [fe C.gq,fe C.oD,fe Iz] [] (by rintro _ _ ⟨_,_⟩ _ _<;>unfold M.EF<;>exact zbK)
def M.GN(dH:zab)(w:ak)(w1:Bool)(kids:ak)(k:ak->Option R):=(M.Oc dH kids w w1 (0,[])).bind λa=>cond (aj a.2) (k a.2) none
def C.ah7{dH:zab}(Iz:S.vX.ok X0 λx=>lU (dH x.1.1.1 x.1.1.2.1 x.1.2.1) x.1.2.2.1):S.D8.ok X0 λx=>M.GN dH x.1.1.1 x.1.1.2.1 x.1.2.1 some:=fnS (λx=>M.GN dH x.1.1.1 x.1.1.2.1 x.1.2.1) [] [F.Oc Iz] (by intros;unfold M.GN;exact zbK)
def M.DN(nV:zal)(w:ak)(w1:Bool)(t':Int)(Du:aC)(Nz:Int)(kids:ak)(open':Int)(k:ak->Option R):=(M.gq open').bind λb=>(nV w w1 kids).bind λc=>oq [[D.int .i64 t',D.str Du,D.int .i64 Nz],[D.int .i64 b.1,D.str b.2.1,D.int .i64 b.2.2]] c 32 λe=>(M.gq (i64.wrap (open'+1))).bind λa=>oq e [[D.int .i64 a.1,D.str a.2.1,D.int .i64 a.2.2]] 32 λd=>cond (aj d) (k d) none
def C.agG{nV:zal}(VX:S.D8.ok X0 λx=>nV x.1.1.1 x.1.1.2.1 x.1.2.1):S.FH.ok X0 λx=>M.DN nV x.1.1.1 x.1.1.2.1 x.1.2.1.1 x.1.2.1.2.1 x.1.2.1.2.2.1 x.1.2.2.1 x.1.va.1 some:=fnS (λx=>M.DN nV x.1.1.1 x.1.1.2.1 x.1.2.1.1 x.1.2.1.2.1 x.1.2.1.2.2.1 x.1.2.2.1 x.1.va.1) [fe C.gq,fe VX] [] (by intros;simp only[M.DN,oq];exact zbK)
def M.GR(fU:zab)(w:ak)(w1:Bool)(i:Int)(k:ak->Option R):=(fU w w1 i 14 false false false false).bind λa=>cond (aj a) (k a) none
def C.afr{fU:zab}(VY:S.D9.ok X0 λx=>lU (fU x.1.1.1 x.1.1.2.1 x.1.2.1) x.1.2.2.1):S.BQ.ok X0 λx=>M.GR fU x.1.1.1 x.1.1.2.1 x.1.2.1 some:=fnS (λx=>M.GR fU x.1.1.1 x.1.1.2.1 x.1.2.1) [fe VY] [] (by intros;unfold M.GR;exact zbK)
end
noncomputable section
variable {R:Type}
def M.DT(dH:zab)(w:ak)(w1:Bool)(n' jW:Int)(mZ oP:aC)(sV:ak)(p:Int)(p1 p2 p3 p4:Bool)(k:ak->Option R):=(idx sV 0).bind λs=>(jq .i64 s 0).bind λo=>(M.gJ n' jW mZ oP sV 0 p p1 p2 p3 p4).bind λe=>(dH w w1 o e.1 e.2.1 e.2.2.1 e.2.2.2.1 e.2.2.2.2).bind λi=>cond (n'==14) ((M.gq 65).bind λh=>oq i [[D.int .i64 h.1,D.str h.2.1,D.int .i64 h.2.2]] 32 λza=>(idx sV 1).bind λq=>(jq .i64 q 0).bind λr=>(M.gJ n' jW mZ oP sV 1 p p1 p2 p3 p4).bind λb=>(dH w w1 r b.1 b.2.1 b.2.2.1 b.2.2.2.1 b.2.2.2.2).bind λt=>oq za t 32 λzb=>(M.gq 66).bind λf=>oq zb [[D.int .i64 f.1,D.str f.2.1,D.int .i64 f.2.2]] 32 λza=>(idx sV 2).bind λx=>(jq .i64 x 0).bind λm=>(M.gJ n' jW mZ oP sV 2 p p1 p2 p3 p4).bind λa=>(dH w w1 m a.1 a.2.1 a.2.2.1 a.2.2.2.1 a.2.2.2.2).bind λu=>oq za u 32 λzb=>cond (aj zb) (k zb) none) (cond (jW !=99) ((M.gq jW).bind λg=>oq i [[D.int .i64 g.1,D.str g.2.1,D.int .i64 g.2.2]] 32 λza=>(idx sV 1).bind λy=>(jq .i64 y 0).bind λj=>(M.gJ n' jW mZ oP sV 1 p p1 p2 p3 p4).bind λd=>(dH w w1 j d.1 d.2.1 d.2.2.1 d.2.2.2.1 d.2.2.2.2).bind λl=>oq za l 32 λzb=>cond (aj zb) (k zb) none) ((idx sV 1).bind λn=>(jq .i64 n 0).bind λz=>(M.gJ n' jW mZ oP sV 1 p p1 p2 p3 p4).bind λc=>(dH w w1 z c.1 c.2.1 c.2.2.1 c.2.2.2.1 c.2.2.2.2).bind λv=>oq i v 32 λza=>cond (aj za) (k za) none))
def C.agH{dH:zab}(Iz:S.vX.ok X0 λx=>lU (dH x.1.1.1 x.1.1.2.1 x.1.2.1) x.1.2.2.1):S.FI.ok X0 λx=>lU (lU (M.DT dH x.1.1.1 x.1.1.2.1) x.1.2.1) x.1.2.2.1 some:=fnS (λx=>M.DT dH x.1.1.1 x.1.1.2.1 x.1.2.1.1 x.1.2.1.2.1 x.1.2.1.2.2.1 x.1.2.1.va.1 x.1.2.1.va.2.1 x.1.2.2.1.1 x.1.2.2.1.2.1 x.1.2.2.1.2.2.1 x.1.2.2.1.va.1 x.1.2.2.1.va.2.1) [fe C.gJ,fe Iz,fe C.gq] [] (by intros;simp only[M.DT,oq];exact zbK)
abbrev M.Jd(afs:Int×aC×Int)(awS:ak)(k:ak->Option R):=cond ((([[D.int .i64 afs.1,D.str afs.2.1,D.int .i64 afs.2.2]].length+awS.length) * 32).ble 140737488355328) (cond (([[D.int .i64 afs.1,D.str afs.2.1,D.int .i64 afs.2.2]].length+awS.length).ble 140737488355328) (cond (aj ([[D.int .i64 afs.1,D.str afs.2.1,D.int .i64 afs.2.2]]++awS)) (k ([[D.int .i64 afs.1,D.str afs.2.1,D.int .i64 afs.2.2]]++awS)) none) none) none
def M.GU(wC:zar)(uw:zaj)(dH:zab)(nV:zal)(EI:zak)(w:ak)(w1:Bool)(i p:Int)(p1 p2 p3 p4:Bool)(k:ak->Option R):=(idx w i).bind λy=>Gw 1 y λaeD alv ajW awT Dp=>((M.yH aeD alv ajW awT Dp).bind λe=>cond (e.1 !=0) (k ([[D.int .i64 e.1,D.str e.2.1,D.int .i64 e.2.2]])) (cond (aeD==5) ((wC w w1 6 ajW 0 Dp 34).bind λo=>cond (aj o) (k o) none) (cond (aeD==7) ((wC w w1 7 ajW 0 Dp 32).bind λn=>cond (aj n) (k n) none) (cond (aeD==8) ((wC w w1 8 ajW 0 Dp 32).bind λq=>cond (aj q) (k q) none) (cond (aeD==9) ((M.gq alv).bind λH=>(idx Dp 0).bind λE=>(jq .i64 E 0).bind λN=>(uw w w1 N).bind λQ=>M.Jd H Q k) (cond (aeD==10) ((idx Dp 0).bind λu=>(jq .i64 u 0).bind λT=>(uw w w1 T).bind λt=>(M.gq alv).bind λj=>oq t [[D.int .i64 j.1,D.str j.2.1,D.int .i64 j.2.2]] 32 λza=>cond (aj za) (k za) none) (cond (aeD==15) ((idx Dp 0).bind λB=>(jq .i64 B 0).bind λs=>(uw w w1 s).bind λU=>(M.gq alv).bind λh=>oq U [[D.int .i64 h.1,D.str h.2.1,D.int .i64 h.2.2]] 32 λza=>(idx Dp 1).bind λF=>(jq .i64 F 0).bind λz=>(M.gJ aeD alv ajW awT Dp 1 p p1 p2 p3 p4).bind λb=>(dH w w1 z b.1 b.2.1 b.2.2.1 b.2.2.2.1 b.2.2.2.2).bind λW=>oq za W 32 λzb=>cond (aj zb) (k zb) none) (cond (aeD==6) ((M.gq 68).bind λI=>(idx Dp 0).bind λA=>(jq .i64 A 0).bind λG=>(M.gJ aeD alv ajW awT Dp 0 p p1 p2 p3 p4).bind λc=>(dH w w1 G c.1 c.2.1 c.2.2.1 c.2.2.2.1 c.2.2.2.2).bind λv=>M.Jd I v k) (cond (aeD==11) ((M.gq alv).bind λV=>(idx Dp 0).bind λK=>(jq .i64 K 0).bind λO=>(M.gJ aeD alv ajW awT Dp 0 p p1 p2 p3 p4).bind λa=>(dH w w1 O a.1 a.2.1 a.2.2.1 a.2.2.2.1 a.2.2.2.2).bind λJ=>M.Jd V J k) (cond (aeD==13) ((idx Dp 0).bind λP=>(jq .i64 P 0).bind λx=>(M.gJ aeD alv ajW awT Dp 0 p p1 p2 p3 p4).bind λd=>(dH w w1 x d.1 d.2.1 d.2.2.1 d.2.2.2.1 d.2.2.2.2).bind λC=>cond (decide ((↑Dp.length:Int)>1)) ((M.gq 32).bind λl=>(nV w w1 Dp).bind λL=>oq [[D.int .i64 l.1,D.str l.2.1,D.int .i64 l.2.2]] L 32 λza=>(M.gq 33).bind λm=>oq za [[D.int .i64 m.1,D.str m.2.1,D.int .i64 m.2.2]] 32 λzb=>(M.gq 24).bind λg=>oq zb [[D.int .i64 g.1,D.str g.2.1,D.int .i64 g.2.2],[D.int .i64 6,D.str ajW,D.int .i64 0]] 32 λza=>cond (aj za) (k za) none) ((M.gq 24).bind λf=>oq C [[D.int .i64 f.1,D.str f.2.1,D.int .i64 f.2.2],[D.int .i64 6,D.str ajW,D.int .i64 0]] 32 λza=>cond (aj za) (k za) none)) ((EI w w1 aeD alv ajW awT Dp p p1 p2 p3 p4).bind λr=>cond (aj r) (k r) none)))))))))))
def C.ah8{wC:zar}{uw:zaj}{dH:zab}{nV:zal}{EI:zak}(ah9:S.FH.ok X0 λx=>wC x.1.1.1 x.1.1.2.1 x.1.2.1.1 x.1.2.1.2.1 x.1.2.1.2.2.1 x.1.2.2.1 x.1.va.1)(agI:S.BQ.ok X0 λx=>uw x.1.1.1 x.1.1.2.1 x.1.2.1)(Iz:S.vX.ok X0 λx=>lU (dH x.1.1.1 x.1.1.2.1 x.1.2.1) x.1.2.2.1)(VX:S.D8.ok X0 λx=>nV x.1.1.1 x.1.1.2.1 x.1.2.1)(aia:S.FI.ok X0 λx=>lU (lU (EI x.1.1.1 x.1.1.2.1) x.1.2.1) x.1.2.2.1):S.D9.ok X0 λx=>lU (M.GU wC uw dH nV EI x.1.1.1 x.1.1.2.1 x.1.2.1) x.1.2.2.1 some:=fnS (λx=>M.GU wC uw dH nV EI x.1.1.1 x.1.1.2.1 x.1.2.1 x.1.2.2.1.1 x.1.2.2.1.2.1 x.1.2.2.1.2.2.1 x.1.2.2.1.va.1 x.1.2.2.1.va.2.1) [fe C.yH,fe ah9,fe C.gq,fe agI,fe C.gJ,fe Iz,fe VX,fe aia] [] (by intros;unfold M.GU M.Jd;exact zbK)
abbrev M.NC(fU:zab)(w:ak)(w1:Bool)(i:Int)(k:ak->Option R):=(M.gq 32).bind λb=>M.oD.bind λd=>(fU w w1 i d.1 d.2.1 d.2.2.1 d.2.2.2.1 d.2.2.2.2).bind λc=>cond ((([[D.int .i64 b.1,D.str b.2.1,D.int .i64 b.2.2]].length+c.length) * 32).ble 140737488355328) (cond (([[D.int .i64 b.1,D.str b.2.1,D.int .i64 b.2.2]].length+c.length).ble 140737488355328) ((M.gq 33).bind λa=>cond (((([[D.int .i64 b.1,D.str b.2.1,D.int .i64 b.2.2]]++c).length+[[D.int .i64 a.1,D.str a.2.1,D.int .i64 a.2.2]].length) * 32).ble 140737488355328) (cond ((([[D.int .i64 b.1,D.str b.2.1,D.int .i64 b.2.2]]++c).length+[[D.int .i64 a.1,D.str a.2.1,D.int .i64 a.2.2]].length).ble 140737488355328) (cond (aj ([[D.int .i64 b.1,D.str b.2.1,D.int .i64 b.2.2]]++c++[[D.int .i64 a.1,D.str a.2.1,D.int .i64 a.2.2]])) (k ([[D.int .i64 b.1,D.str b.2.1,D.int .i64 b.2.2]]++c++[[D.int .i64 a.1,D.str a.2.1,D.int .i64 a.2.2]])) none) none) none) none) none
abbrev M.TB(w1:Bool)(w:ak)(i:Int)(fU:zab)(p:Int)(p1 p2 p3 p4:Bool)(k:ak->Option R):=cond w1 ((idx w i).bind λa=>(jq .i64 a 0).bind λd=>(jq .i64 a 1).bind λg=>(cStr a 2).bind λl=>(cStr a 3).bind λh=>(cSl 1 a 4).bind λe=>(M.nK d g l h e).bind λc=>cond (c==15) ((idx w i).bind λf=>(jq .i64 f 0).bind λj=>cond (j !=4) ((fU w w1 i p p1 p2 p3 p4).bind λb=>cond (aj b) (k b) none) (M.NC fU w w1 i k)) (M.NC fU w w1 i k)) (M.NC fU w w1 i k)
def M.LX(fU:zab)(w:ak)(w1:Bool)(i p:Int)(p1 p2 p3 p4:Bool)(k:ak->Option R):=(idx w i).bind λc=>Gw 1 c λaYg aYh aYi aYj aCl=>((M.Jq aYg aYh aYi aYj aCl p p1 p2 p3 p4).bind λb=>cond b (cond (!w1) ((fU w w1 i p p1 p2 p3 p4).bind λa=>cond (aj a) (k a) none) (M.TB w1 w i fU p p1 p2 p3 p4 k)) (M.TB w1 w i fU p p1 p2 p3 p4 k))
def C.alx{fU:zab}(VY:S.D9.ok X0 λx=>lU (fU x.1.1.1 x.1.1.2.1 x.1.2.1) x.1.2.2.1):S.vX.ok X0 λx=>lU (M.LX fU x.1.1.1 x.1.1.2.1 x.1.2.1) x.1.2.2.1 some:=fnS (λx=>M.LX fU x.1.1.1 x.1.1.2.1 x.1.2.1 x.1.2.2.1.1 x.1.2.2.1.2.1 x.1.2.2.1.2.2.1 x.1.2.2.1.va.1 x.1.2.2.1.va.2.1) [fe C.Jq,fe VY,fe C.nK,fe C.gq,fe C.oD] [] (by intros;unfold M.LX M.TB M.NC;exact zbK)
def M.oL:Nat->(zab)×(zal)×(zar)×(zaj)×(zak)×(zab):=Nat.rec (λ_ _ _ _ _ _ _ _=>none,λ_ _ _=>none,λ_ _ _ _ _ _ _=>none,λ_ _ _=>none,λ_ _ _ _ _ _ _ _ _ _ _ _=>none,λ_ _ _ _ _ _ _ _=>none) λ_ qz=>(λw w1 i p p1 p2 p3 p4=>M.LX qz.2.2.2.2.2 w w1 i p p1 p2 p3 p4 some,λw w1 kids=>M.GN qz.1 w w1 kids some,λw w1 t' Du Nz kids open'=>M.DN qz.2.1 w w1 t' Du Nz kids open' some,λw w1 i=>M.GR qz.2.2.2.2.2 w w1 i some,λw w1 n' jW mZ oP sV p p1 p2 p3 p4=>M.DT qz.1 w w1 n' jW mZ oP sV p p1 p2 p3 p4 some,λw w1 i p p1 p2 p3 p4=>M.GU qz.2.2.1 qz.2.2.2.1 qz.1 qz.2.1 qz.2.2.2.2.1 w w1 i p p1 p2 p3 p4 some)
def M.wE n:=(M.oL n).1
def M.GV n:=(M.oL n).2.1
def M.Je n:=(M.oL n).2.2.1
def M.GX n:=(M.oL n).2.2.2.1
def M.Jf n:=(M.oL n).2.2.2.2.1
def M.GY n:=(M.oL n).2.2.2.2.2
def M.an9(n:Nat):M.wE (n+1)=λw w1 i p p1 p2 p3 p4=>M.LX (M.GY n) w w1 i p p1 p2 p3 p4 some:=rfl
def M.ajY(n:Nat):M.GV (n+1)=λw w1 kids=>M.GN (M.wE n) w w1 kids some:=rfl
def M.aic(n:Nat):M.Je (n+1)=λw w1 t' Du Nz kids open'=>M.DN (M.GV n) w w1 t' Du Nz kids open' some:=rfl
def M.agJ(n:Nat):M.GX (n+1)=λw w1 i=>M.GR (M.GY n) w w1 i some:=rfl
def M.aie(n:Nat):M.Jf (n+1)=λw w1 n' jW mZ oP sV p p1 p2 p3 p4=>M.DT (M.wE n) w w1 n' jW mZ oP sV p p1 p2 p3 p4 some:=rfl
def M.ajZ(n:Nat):M.GY (n+1)=λw w1 i p p1 p2 p3 p4=>M.GU (M.Je n) (M.GX n) (M.wE n) (M.GV n) (M.Jf n) w w1 i p p1 p2 p3 p4 some:=rfl
def M.vX w w1 i p p1 p2 p3 p4:=lim λn=>M.wE n w w1 i p p1 p2 p3 p4
def M.D8 w w1 kids:=lim λn=>M.GV n w w1 kids
def M.FH w w1 t' Du Nz kids open':=lim λn=>M.Je n w w1 t' Du Nz kids open'
def M.BQ w w1 i:=lim λn=>M.GX n w w1 i
def M.FI w w1 n' jW mZ oP sV p p1 p2 p3 p4:=lim λn=>M.Jf n w w1 n' jW mZ oP sV p p1 p2 p3 p4
def M.D9 w w1 i p p1 p2 p3 p4:=lim λn=>M.GY n w w1 i p p1 p2 p3 p4
def C.oL:∀n,(S.vX.ok X0 λx=>lU (M.wE n x.1.1.1 x.1.1.2.1 x.1.2.1) x.1.2.2.1)/\(S.D8.ok X0 λx=>M.GV n x.1.1.1 x.1.1.2.1 x.1.2.1)/\(S.FH.ok X0 λx=>M.Je n x.1.1.1 x.1.1.2.1 x.1.2.1.1 x.1.2.1.2.1 x.1.2.1.2.2.1 x.1.2.2.1 x.1.va.1)/\(S.BQ.ok X0 λx=>M.GX n x.1.1.1 x.1.1.2.1 x.1.2.1)/\(S.FI.ok X0 λx=>lU (lU (M.Jf n x.1.1.1 x.1.1.2.1) x.1.2.1) x.1.2.2.1)/\(S.D9.ok X0 λx=>lU (M.GY n x.1.1.1 x.1.1.2.1 x.1.2.1) x.1.2.2.1)
 |0=>⟨eP.zero,eP.zero,eP.zero,eP.zero,eP.zero,eP.zero⟩
 |n+1=>have h:=C.oL n;⟨C.alx h.2.2.2.2.2,C.ah7 h.1,C.agG h.2.1,C.afr h.2.2.2.2.2,C.agH h.1,C.ah8 h.2.2.1 h.2.2.2.1 h.1 h.2.1 h.2.2.2.2.1⟩
def C.vX:S.vX.ok X0 λx=>lU (M.vX x.1.1.1 x.1.1.2.1 x.1.2.1) x.1.2.2.1:=eP.lim λn=>(C.oL n).1
def M.aly{n:Nat}{w:ak}{w1:Bool}{i p:Int}{p1 p2 p3 p4:Bool}{r:ak}(h:M.wE n w w1 i p p1 p2 p3 p4=some r):M.vX w w1 i p p1 p2 p3 p4=some r:=eP.Ij (λn=>(C.oL n).1) (by intro a b h;simp[S.vX,rp,sg] at h;first|exact h|simp[Prod.ext_iff,h]) (x:=(((w,w1,()),i,(p,p1,p2,p3,p4,()),()),())) h
def C.D8:S.D8.ok X0 λx=>M.D8 x.1.1.1 x.1.1.2.1 x.1.2.1:=eP.lim λn=>(C.oL n).2.1
def C.FH:S.FH.ok X0 λx=>M.FH x.1.1.1 x.1.1.2.1 x.1.2.1.1 x.1.2.1.2.1 x.1.2.1.2.2.1 x.1.2.2.1 x.1.va.1:=eP.lim λn=>(C.oL n).2.2.1
def C.BQ:S.BQ.ok X0 λx=>M.BQ x.1.1.1 x.1.1.2.1 x.1.2.1:=eP.lim λn=>(C.oL n).2.2.2.1
def C.FI:S.FI.ok X0 λx=>lU (lU (M.FI x.1.1.1 x.1.1.2.1) x.1.2.1) x.1.2.2.1:=eP.lim λn=>(C.oL n).2.2.2.2.1
def C.D9:S.D9.ok X0 λx=>lU (M.D9 x.1.1.1 x.1.1.2.1 x.1.2.1) x.1.2.2.1:=eP.lim λn=>(C.oL n).2.2.2.2.2
def M.Cc(s':aC)(at':Int)(x':ak)(s:Int×Int×Int)(kn:Int×Int×Int->Option R)(ke:Int×Int×Int->Option R):Option R:=match s with
 |(kind,size,i)=>bif decide (i<(↑x'.length:Int)) then((idx x' i).bind λf=>x'[i.toNat]?.bind λd=>(cStr d 0).bind λa=>bif decide (at'>=0) then(bif decide (at'<=(↑s'.length:Int)) then(bif decide ((↑a.length:Int)<=i64.wrap ((↑s'.length:Int) - at')) then((cut s' at' (i64.wrap (at'+(↑a.length:Int)))).bind λe=>(idx x' i).bind λg=>x'[i.toNat]?.bind λb=>(cStr b 0).bind λc=>bif e==c then(bif decide ((↑a.length:Int)>size) then(kn (i64.wrap (30+i),(↑a.length:Int),i64.wrap (i+1))) else kn (kind,size,i64.wrap (i+1))) else kn (kind,size,i64.wrap (i+1))) else kn (kind,size,i64.wrap (i+1))) else kn (kind,size,i64.wrap (i+1))) else kn (kind,size,i64.wrap (i+1))) else ke (kind,size,i)
def M.KI s' at' x' s:=M.Cc s' at' x' s (λs=>some (Sum.inl s)) λt=>some (Sum.inr t)
def M.Qh s' at' x' s:=fH (M.KI s' at' x') s
def F.Qh:LE X0 45:=le 5 (Ik [dA 0 pS,dA 1 pI,dA 6 pI,dA 7 pI,dA 8 (pO 300000 0),dA 9 pI] [dA 300000 zbl]) (λx=>(x.1.2.2.1,x.1.va.1,x.1.va.2.2.1)) (λx s=>((x.1.1,x.1.2.1,s.1,s.2.1,(),s.2.2,()),(x.2.1,()))) (λx=> .leaf (Int×Int×Int) (λt=>(Ex.exit 0,⟨[(0,qw x.1.1),(1,iE x.1.2.1),(6,iE t.1),(7,iE t.2.1),(8,V.own 300000 0),(9,iE t.2.2),(15,oC false)],[(300000,Cell.arr false true 0 1 x.2.1)]⟩))) (λx=>M.Cc x.1.1 x.1.2.1 x.2.1) [] [] (by rintro _ _ ⟨_,_,_⟩ _ _<;>simp only[M.Cc,nb]<;>rfl)
abbrev M.Ul(s':aC)(at':Int)(k:Int×Int->Option R):=M.Az.bind λb=>(M.Qh s' at' b (0,0,0)).bind λa=>k (a.1,a.2.1)
def M.zy s' at':=M.Ul s' at' some
def C.zy:=fTa S.zy (λx=>M.Ul x.1.1 x.1.2.1) [fe C.Az] [F.Qh]
abbrev M.BM(a b:Int)(k:Bool->Option R)(a1 b1:aC):=cond (a==6) (cond (b==32) (k true) (cond ((a1.length+b1.length).ble 9223372036854775807) ((M.zy (a1++b1) 0).bind λf=>(M.dQ a 30 68).bind λd=>cond d (k (decide (f.2>(↑a1.length:Int)))) (k false)) none)) (cond ((a1.length+b1.length).ble 9223372036854775807) ((M.zy (a1++b1) 0).bind λc=>(M.dQ a 30 68).bind λe=>cond e (k (decide (c.2>(↑a1.length:Int)))) (k false)) none)
def M.Oe(a:Int)(a1:aC)(a2 b:Int)(b1:aC)(b2:Int)(k:Bool->Option R):=cond (a1==[]) (k false) (cond (b1==[]) (k false) (cond (a==2) (k false) (cond (a==1) (k false) (cond (b==1) (k false) ((idx b1 0).bind λc=>(idx a1 (i64.wrap ((↑a1.length:Int) - 1))).bind λf=>(M.jG (i64.wrap (↑f.toNat:Int))).bind λg=>cond g ((M.jG (i64.wrap (↑c.toNat:Int))).bind λd=>cond d (k true) (cond (a==3) ((M.jG (i64.wrap (↑c.toNat:Int))).bind λh=>cond h (k true) (cond (i64.wrap (↑c.toNat:Int)==46) (k true) (M.BM a b k a1 b1))) (M.BM a b k a1 b1))) (cond (a==3) ((M.jG (i64.wrap (↑c.toNat:Int))).bind λe=>cond e (k true) (cond (i64.wrap (↑c.toNat:Int)==46) (k true) (M.BM a b k a1 b1))) (M.BM a b k a1 b1)))))))
def M.vM a a1 a2 b b1 b2:=M.Oe a a1 a2 b b1 b2 some
def C.vM:S.vM.ok X0 λx=>M.vM x.1.1.1 x.1.1.2.1 x.1.1.2.2.1 x.1.2.1.1 x.1.2.1.2.1 x.1.2.1.2.2.1:=fnS (λx=>M.Oe x.1.1.1 x.1.1.2.1 x.1.1.2.2.1 x.1.2.1.1 x.1.2.1.2.1 x.1.2.1.2.2.1) [fe C.jG,fe C.zy,fe C.dQ] [] (by intros;unfold M.Oe M.BM;exact zbK)
abbrev M.KJ(jW:Int)(awV awW:ak)(k:ak->Option R):=(M.jo jW).bind λb=>cond ((1+b.length).ble 9223372036854775807) ((M.fC ([32]++b)).bind λf=>M.vW.bind λe=>(M.fP 6 0 (aB [[D.sl true 4 awV],[D.sl true 4 f],[D.sl true 4 e],[D.sl true 4 awW]])).bind λd=>cond ([[D.sl true 4 d]].all fB) ((M.fP 4 4 (aB [[D.sl true 4 d]])).bind λa=>cond ([[D.sl true 4 a]].all fB) ((M.fP 5 0 (aB [[D.sl true 4 a]])).bind λc=>cond ([[D.sl true 4 c]].all fB) (k c) none) none) none) none
def M.Js(dn:zab)(w:ak)(w1:Bool)(n' jW:Int)(mZ oP:aC)(sV:ak)(p:Int)(p1 p2 p3 p4:Bool)(k:ak->Option R):=(idx sV 0).bind λi=>(jq .i64 i 0).bind λn=>(M.gJ n' jW mZ oP sV 0 p p1 p2 p3 p4).bind λb=>(dn w w1 n b.1 b.2.1 b.2.2.1 b.2.2.2.1 b.2.2.2.2).bind λc=>(idx sV 1).bind λh=>(jq .i64 h 0).bind λj=>(M.gJ n' jW mZ oP sV 1 p p1 p2 p3 p4).bind λa=>(dn w w1 j a.1 a.2.1 a.2.2.1 a.2.2.2.1 a.2.2.2.2).bind λd=>cond (jW==99) ((M.fC [32]).bind λl=>(M.fP 6 0 (aB [[D.sl true 4 c],[D.sl true 4 l],[D.sl true 4 d]])).bind λf=>cond ([[D.sl true 4 f]].all fB) (k f) none) (cond (jW==45) (M.KJ jW c d k) (cond (jW==44) (M.KJ jW c d k) ((M.jo jW).bind λe=>cond ((1+e.length).ble 9223372036854775807) (cond ((([32]++e).length+1).ble 9223372036854775807) ((M.fC ([32]++e++[32])).bind λm=>(M.fP 6 0 (aB [[D.sl true 4 c],[D.sl true 4 m],[D.sl true 4 d]])).bind λg=>cond ([[D.sl true 4 g]].all fB) (k g) none) none) none)))
def C.aj0{dn:zab}(Iy:S.uj.ok X0 λx=>lU (dn x.1.1.1 x.1.1.2.1 x.1.2.1) x.1.2.2.1):S.KC.ok X0 λx=>lU (lU (M.Js dn x.1.1.1 x.1.1.2.1) x.1.2.1) x.1.2.2.1 some:=fnS (λx=>M.Js dn x.1.1.1 x.1.1.2.1 x.1.2.1.1 x.1.2.1.2.1 x.1.2.1.2.2.1 x.1.2.1.va.1 x.1.2.1.va.2.1 x.1.2.2.1.1 x.1.2.2.1.2.1 x.1.2.2.1.2.2.1 x.1.2.2.1.va.1 x.1.2.2.1.va.2.1) [fe C.gJ,fe Iy,fe C.fC,fe C.fP,fe C.jo,fe C.vW] [] (by intros;unfold M.Js M.KJ;exact zbK)
abbrev M.DU(qy:ak)(Um Xx:Int)(Yb ab7:aC)(p:Int)(p1 p2 p3 p4:Bool)(dn:zab)(w:ak)(w1:Bool)(aHf:ak)(k:ak->Option R):=(idx qy 0).bind λc=>(jq .i64 c 0).bind λd=>(M.gJ Um Xx Yb ab7 qy 0 p p1 p2 p3 p4).bind λa=>(dn w w1 d a.1 a.2.1 a.2.2.1 a.2.2.2.1 a.2.2.2.2).bind λe=>(M.fP 6 0 (aB [[D.sl true 4 aHf],[D.sl true 4 e]])).bind λb=>cond ([[D.sl true 4 b]].all fB) (k b) none
def M.GZ(wF:zas)(uy:zaj)(dn:zab)(nU:zam)(Jg:zak)(w:ak)(w1:Bool)(i p:Int)(p1 p2 p3 p4:Bool)(k:ak->Option R):=(idx w i).bind λaHh=>Gw 1 aHh λUm Xx Yb ab7 qy=>((M.yH Um Xx Yb ab7 qy).bind λu=>cond (u.1 !=0) ((M.fC u.2.1).bind λaYD=>k aYD) (cond (Um==5) ((wF w w1 Um Xx Yb ab7 qy [91] [93]).bind λY=>k Y) (cond (Um==7) ((wF w w1 Um Xx Yb ab7 qy [40] [41]).bind λaYF=>k aYF) (cond (Um==8) ((wF w w1 Um Xx Yb ab7 qy [40] [41]).bind λaYG=>k aYG) (cond (Um==9) ((M.jo Xx).bind λaYH=>(M.fC aYH).bind λJ=>(idx qy 0).bind λE=>(jq .i64 E 0).bind λaYJ=>(uy w w1 aYJ).bind λaYK=>(M.fP 6 0 (aB [[D.sl true 4 J],[D.sl true 4 aYK]])).bind λv=>cond ([[D.sl true 4 v]].all fB) (k v) none) (cond (Um==10) ((idx qy 0).bind λaHj=>(jq .i64 aHj 0).bind λaYL=>(uy w w1 aYL).bind λaYM=>(M.jo Xx).bind λaYN=>(M.fC aYN).bind λG=>(M.fP 6 0 (aB [[D.sl true 4 aYM],[D.sl true 4 G]])).bind λn=>cond ([[D.sl true 4 n]].all fB) (k n) none) (cond (Um==6) ((M.fC [36]).bind λaHf=>M.DU qy Um Xx Yb ab7 p p1 p2 p3 p4 dn w w1 aHf k) (cond (Um==15) ((idx qy 0).bind λy=>(jq .i64 y 0).bind λW=>(uy w w1 W).bind λX=>(M.jo Xx).bind λl=>cond ((1+l.length).ble 9223372036854775807) (cond ((([32]++l).length+1).ble 9223372036854775807) ((M.fC ([32]++l++[32])).bind λaYR=>(idx qy 1).bind λB=>(jq .i64 B 0).bind λaYS=>(M.gJ Um Xx Yb ab7 qy 1 p p1 p2 p3 p4).bind λb=>(dn w w1 aYS b.1 b.2.1 b.2.2.1 b.2.2.2.1 b.2.2.2.2).bind λaYT=>(M.fP 6 0 (aB [[D.sl true 4 X],[D.sl true 4 aYR],[D.sl true 4 aYT]])).bind λq=>cond ([[D.sl true 4 q]].all fB) (k q) none) none) none) (cond (Um==11) ((M.jo Xx).bind λh=>(M.gq Xx).bind λm=>(idx qy 0).bind λaHp=>(jq .i64 aHp 0).bind λx=>(M.gJ Um Xx Yb ab7 qy 0 p p1 p2 p3 p4).bind λa=>(M.vX w w1 x a.1 a.2.1 a.2.2.1 a.2.2.2.1 a.2.2.2.2).bind λr=>(idx r 0).bind λaYV=>r[0]?.bind λj=>(jq .i64 j 0).bind λN=>(cStr j 1).bind λz=>(jq .i64 j 2).bind λaYY=>(M.vM m.1 m.2.1 m.2.2 N z aYY).bind λH=>cond H (cond ((h.length+1).ble 9223372036854775807) ((M.fC (h++[32])).bind λZ=>M.DU qy Um Xx Yb ab7 p p1 p2 p3 p4 dn w w1 Z k) none) ((M.fC h).bind λO=>M.DU qy Um Xx Yb ab7 p p1 p2 p3 p4 dn w w1 O k)) (cond (Um==14) ((idx qy 0).bind λP=>(jq .i64 P 0).bind λaY2=>(M.gJ Um Xx Yb ab7 qy 0 p p1 p2 p3 p4).bind λf=>(dn w w1 aY2 f.1 f.2.1 f.2.2.1 f.2.2.2.1 f.2.2.2.2).bind λQ=>(M.fC [32,63,32]).bind λaY4=>(idx qy 1).bind λK=>(jq .i64 K 0).bind λC=>(M.gJ Um Xx Yb ab7 qy 1 p p1 p2 p3 p4).bind λg=>(dn w w1 C g.1 g.2.1 g.2.2.1 g.2.2.2.1 g.2.2.2.2).bind λaY6=>(M.fC [32,58,32]).bind λL=>(idx qy 2).bind λaHs=>(jq .i64 aHs 0).bind λaY8=>(M.gJ Um Xx Yb ab7 qy 2 p p1 p2 p3 p4).bind λd=>(dn w w1 aY8 d.1 d.2.1 d.2.2.1 d.2.2.2.1 d.2.2.2.2).bind λT=>(M.fP 6 0 (aB [[D.sl true 4 Q],[D.sl true 4 aY4],[D.sl true 4 aY6],[D.sl true 4 L],[D.sl true 4 T]])).bind λt=>cond ([[D.sl true 4 t]].all fB) (k t) none) (cond (Um==13) (cond ((↑qy.length:Int)==1) ((idx qy 0).bind λF=>(jq .i64 F 0).bind λaZa=>(M.gJ Um Xx Yb ab7 qy 0 p p1 p2 p3 p4).bind λc=>(dn w w1 aZa c.1 c.2.1 c.2.2.1 c.2.2.2.1 c.2.2.2.2).bind λU=>cond ((4+Yb.length).ble 9223372036854775807) ((M.fC ([32,105,110,32]++Yb)).bind λaZc=>(M.fP 6 0 (aB [[D.sl true 4 U],[D.sl true 4 aZc]])).bind λs=>cond ([[D.sl true 4 s]].all fB) (k s) none) none) ((M.fC [40]).bind λA=>M.oD.bind λe=>(nU w w1 qy e.1 e.2.1 e.2.2.1 e.2.2.2.1 e.2.2.2.2).bind λI=>cond ((5+Yb.length).ble 9223372036854775807) ((M.fC ([41,32,105,110,32]++Yb)).bind λV=>(M.fP 6 0 (aB [[D.sl true 4 A],[D.sl true 4 I],[D.sl true 4 V]])).bind λo=>cond ([[D.sl true 4 o]].all fB) (k o) none) none)) ((Jg w w1 Um Xx Yb ab7 qy p p1 p2 p3 p4).bind λaZg=>k aZg))))))))))))
def C.aif{wF:zas}{uy:zaj}{dn:zab}{nU:zam}{Jg:zak}(aii:S.FD.ok X0 λx=>lU (wF x.1.1.1 x.1.1.2.1) x.1.2.1 x.1.2.2.1 x.1.va.1)(agK:S.BP.ok X0 λx=>uy x.1.1.1 x.1.1.2.1 x.1.2.1)(Iy:S.uj.ok X0 λx=>lU (dn x.1.1.1 x.1.1.2.1 x.1.2.1) x.1.2.2.1)(VU:S.D7.ok X0 λx=>lU (nU x.1.1.1 x.1.1.2.1 x.1.2.1) x.1.2.2.1)(alz:S.KC.ok X0 λx=>lU (lU (Jg x.1.1.1 x.1.1.2.1) x.1.2.1) x.1.2.2.1):S.Ea.ok X0 λx=>lU (M.GZ wF uy dn nU Jg x.1.1.1 x.1.1.2.1 x.1.2.1) x.1.2.2.1 some:=fnS (λx=>M.GZ wF uy dn nU Jg x.1.1.1 x.1.1.2.1 x.1.2.1 x.1.2.2.1.1 x.1.2.2.1.2.1 x.1.2.2.1.2.2.1 x.1.2.2.1.va.1 x.1.2.2.1.va.2.1) [fe C.yH,fe C.fC,fe aii,fe C.jo,fe agK,fe C.fP,fe C.gJ,fe Iy,fe C.gq,fe C.vX,fe C.vM,fe C.oD,fe VU,fe alz] [] (by intros;unfold M.GZ M.DU;exact zbK)
def M.LY(l9:zab)(w:ak)(w1:Bool)(i p:Int)(p1 p2 p3 p4:Bool)(k:ak->Option R):=(idx w i).bind λe=>Gw 1 e λaZh aZi aZj aZk aCn=>((M.Jq aZh aZi aZj aZk aCn p p1 p2 p3 p4).bind λc=>cond c ((l9 w w1 i p p1 p2 p3 p4).bind λg=>k g) ((M.fC [40]).bind λf=>M.oD.bind λa=>(l9 w w1 i a.1 a.2.1 a.2.2.1 a.2.2.2.1 a.2.2.2.2).bind λd=>(M.fC [41]).bind λh=>(M.fP 6 0 (aB [[D.sl true 4 f],[D.sl true 4 d],[D.sl true 4 h]])).bind λb=>cond ([[D.sl true 4 b]].all fB) (k b) none))
def C.alA{l9:zab}(VW:S.Ea.ok X0 λx=>lU (l9 x.1.1.1 x.1.1.2.1 x.1.2.1) x.1.2.2.1):S.uj.ok X0 λx=>lU (M.LY l9 x.1.1.1 x.1.1.2.1 x.1.2.1) x.1.2.2.1 some:=fnS (λx=>M.LY l9 x.1.1.1 x.1.1.2.1 x.1.2.1 x.1.2.2.1.1 x.1.2.2.1.2.1 x.1.2.2.1.2.2.1 x.1.2.2.1.va.1 x.1.2.2.1.va.2.1) [fe C.Jq,fe VW,fe C.fC,fe C.oD,fe C.fP] [] (by intros;simp only[M.LY,Gw];exact zbK)
def M.oM:Nat->(zab)×(zam)×(zas)×(zaj)×(zak)×(zab):=Nat.rec (λ_ _ _ _ _ _ _ _=>none,λ_ _ _ _ _ _ _ _=>none,λ_ _ _ _ _ _ _ _ _=>none,λ_ _ _=>none,λ_ _ _ _ _ _ _ _ _ _ _ _=>none,λ_ _ _ _ _ _ _ _=>none) λ_ qz=>(λw w1 i p p1 p2 p3 p4=>M.LY qz.2.2.2.2.2 w w1 i p p1 p2 p3 p4 some,λw w1 kids p p1 p2 p3 p4=>M.GK qz.1 w w1 kids p p1 p2 p3 p4 some,λw w1 n' jW mZ oP sV open' end'=>M.DK qz.2.1 w w1 n' jW mZ oP sV open' end' some,λw w1 i=>M.GL qz.2.2.2.2.2 w w1 i some,λw w1 n' jW mZ oP sV p p1 p2 p3 p4=>M.Js qz.1 w w1 n' jW mZ oP sV p p1 p2 p3 p4 some,λw w1 i p p1 p2 p3 p4=>M.GZ qz.2.2.1 qz.2.2.2.1 qz.1 qz.2.1 qz.2.2.2.2.1 w w1 i p p1 p2 p3 p4 some)
def M.tV n:=(M.oM n).1
def M.G7 n:=(M.oM n).2.1
def M.Jh n:=(M.oM n).2.2.1
def M.G8 n:=(M.oM n).2.2.2.1
def M.ND n:=(M.oM n).2.2.2.2.1
def M.G9 n:=(M.oM n).2.2.2.2.2
def M.aoa(n:Nat):M.tV (n+1)=λw w1 i p p1 p2 p3 p4=>M.LY (M.G9 n) w w1 i p p1 p2 p3 p4 some:=rfl
def M.aj1(n:Nat):M.G7 (n+1)=λw w1 kids p p1 p2 p3 p4=>M.GK (M.tV n) w w1 kids p p1 p2 p3 p4 some:=rfl
def M.aij(n:Nat):M.Jh (n+1)=λw w1 n' jW mZ oP sV open' end'=>M.DK (M.G7 n) w w1 n' jW mZ oP sV open' end' some:=rfl
def M.agL(n:Nat):M.G8 (n+1)=λw w1 i=>M.GL (M.G9 n) w w1 i some:=rfl
def M.alB(n:Nat):M.ND (n+1)=λw w1 n' jW mZ oP sV p p1 p2 p3 p4=>M.Js (M.tV n) w w1 n' jW mZ oP sV p p1 p2 p3 p4 some:=rfl
def M.aj2(n:Nat):M.G9 (n+1)=λw w1 i p p1 p2 p3 p4=>M.GZ (M.Jh n) (M.G8 n) (M.tV n) (M.G7 n) (M.ND n) w w1 i p p1 p2 p3 p4 some:=rfl
def M.uj w w1 i p p1 p2 p3 p4:=lim λn=>M.tV n w w1 i p p1 p2 p3 p4
def M.D7 w w1 kids p p1 p2 p3 p4:=lim λn=>M.G7 n w w1 kids p p1 p2 p3 p4
def M.FD w w1 n' jW mZ oP sV open' end':=lim λn=>M.Jh n w w1 n' jW mZ oP sV open' end'
def M.BP w w1 i:=lim λn=>M.G8 n w w1 i
def M.KC w w1 n' jW mZ oP sV p p1 p2 p3 p4:=lim λn=>M.ND n w w1 n' jW mZ oP sV p p1 p2 p3 p4
def M.Ea w w1 i p p1 p2 p3 p4:=lim λn=>M.G9 n w w1 i p p1 p2 p3 p4
def C.oM:∀n,(S.uj.ok X0 λx=>lU (M.tV n x.1.1.1 x.1.1.2.1 x.1.2.1) x.1.2.2.1)/\(S.D7.ok X0 λx=>lU (M.G7 n x.1.1.1 x.1.1.2.1 x.1.2.1) x.1.2.2.1)/\(S.FD.ok X0 λx=>lU (M.Jh n x.1.1.1 x.1.1.2.1) x.1.2.1 x.1.2.2.1 x.1.va.1)/\(S.BP.ok X0 λx=>M.G8 n x.1.1.1 x.1.1.2.1 x.1.2.1)/\(S.KC.ok X0 λx=>lU (lU (M.ND n x.1.1.1 x.1.1.2.1) x.1.2.1) x.1.2.2.1)/\(S.Ea.ok X0 λx=>lU (M.G9 n x.1.1.1 x.1.1.2.1 x.1.2.1) x.1.2.2.1)
 |0=>⟨eP.zero,eP.zero,eP.zero,eP.zero,eP.zero,eP.zero⟩
 |n+1=>have h:=C.oM n;⟨C.alA h.2.2.2.2.2,C.ah6 h.1,C.agF h.2.1,C.afq h.2.2.2.2.2,C.aj0 h.1,C.aif h.2.2.1 h.2.2.2.1 h.1 h.2.1 h.2.2.2.2.1⟩
def C.uj:S.uj.ok X0 λx=>lU (M.uj x.1.1.1 x.1.1.2.1 x.1.2.1) x.1.2.2.1:=eP.lim λn=>(C.oM n).1
def M.alC{n:Nat}{w:ak}{w1:Bool}{i p:Int}{p1 p2 p3 p4:Bool}{r:ak}(h:M.tV n w w1 i p p1 p2 p3 p4=some r):M.uj w w1 i p p1 p2 p3 p4=some r:=eP.Ij (λn=>(C.oM n).1) (by intro a b h;simp[S.uj,rm,sg] at h;first|exact h|simp[Prod.ext_iff,h]) (x:=(((w,w1,()),i,(p,p1,p2,p3,p4,()),()),())) h
def C.D7:S.D7.ok X0 λx=>lU (M.D7 x.1.1.1 x.1.1.2.1 x.1.2.1) x.1.2.2.1:=eP.lim λn=>(C.oM n).2.1
def C.FD:S.FD.ok X0 λx=>lU (M.FD x.1.1.1 x.1.1.2.1) x.1.2.1 x.1.2.2.1 x.1.va.1:=eP.lim λn=>(C.oM n).2.2.1
def C.BP:S.BP.ok X0 λx=>M.BP x.1.1.1 x.1.1.2.1 x.1.2.1:=eP.lim λn=>(C.oM n).2.2.2.1
def C.KC:S.KC.ok X0 λx=>lU (lU (M.KC x.1.1.1 x.1.1.2.1) x.1.2.1) x.1.2.2.1:=eP.lim λn=>(C.oM n).2.2.2.2.1
def C.Ea:S.Ea.ok X0 λx=>lU (M.Ea x.1.1.1 x.1.1.2.1 x.1.2.1) x.1.2.2.1:=eP.lim λn=>(C.oM n).2.2.2.2.2
abbrev M.Qi(l:ak)(p:Int)(p1 p2 p3 p4:Bool)(k:ak->Option R):=(M.KA l).bind λa=>cond (!a) (k []) ((M.xU p p1 p2 p3 p4).bind λc=>cond (!c) (k []) ((M.uj l false (i64.wrap ((↑l.length:Int) - 1)) p p1 p2 p3 p4).bind λb=>k b))
def M.Il l p p1 p2 p3 p4:=M.Qi l p p1 p2 p3 p4 some
def C.Il:=fTa S.Il (λx=>M.Qi x.1.1 x.1.2.1.1 x.1.2.1.2.1 x.1.2.1.2.2.1 x.1.2.1.va.1 x.1.2.1.va.2.1) [fe C.KA,fe C.xU,fe C.uj]
abbrev M.DV(n':Int)(mZ:aC)(k:Bool->Option R)(oP:ak)(jW:Int):=cond (n'==1) ((M.yG mZ).bind λb=>cond b (k ((↑oP.length:Int)==0)) (k false)) (cond (n'==2) (k ((↑oP.length:Int)==0)) (cond (n'==3) (k ((↑oP.length:Int)==0)) (cond (n'==4) ((M.dQ jW 0 40).bind λa=>cond a (k ((↑oP.length:Int)==1)) (k false)) (cond (n'==5) (k ((↑oP.length:Int)==1)) (k (n'==6))))))
def M.Qj(n' jW:Int)(mZ:aC)(oP:ak)(k:Bool->Option R):=cond (n' !=1) (cond (!mZ==[]) (k false) (cond (n' !=4) (cond (jW !=0) (k false) (M.DV n' mZ k oP jW)) (M.DV n' mZ k oP jW))) (cond (n' !=4) (cond (jW !=0) (k false) (M.DV n' mZ k oP jW)) (M.DV n' mZ k oP jW))
def M.Eb n' jW mZ oP:=M.Qj n' jW mZ oP some
def C.Eb:S.Eb.ok X0 λx=>zbJ M.Eb x.1.1:=fnS (λx=>zbJ M.Qj x.1.1) [fe C.yG,fe C.dQ] [] (by intros;unfold M.Qj M.DV;exact zbK)
def M.zX(l:ak)(i:Int)(x':ak)(s:Int×Int)(kn:Int×Int->Option R)(ke:(Unit)⊕(Int×Int)->Option R):Option R:=match s with
 |(at',k')=>bif decide (k'>=0) then((idx l i).bind λa=>(cSl 1 a 3).bind λf=>(idx f k').bind λc=>(jq .i64 c 0).bind λb=>bif b !=i64.wrap (at' - 1) then(ke (.inl ())) else bif at'==0 then(ke (.inl ())) else (idx x' (i64.wrap (at' - 1))).bind λg=>(x'[(i64.wrap (at' - 1)).toNat]?).bind λd=>(jq .i64 d 0).bind λe=>kn (e,i64.wrap (k' - 1))) else ke (.inr (at',k'))
def M.F8 l i x' s:=M.zX l i x' s (λs=>some (Sum.inl s)) λt=>some (Sum.inr t)
def M.wG l i x' s:=fH (M.F8 l i x') s
def F.wG:LE X0 186:=le 7 (Ik [dA 0 (pL false 4),dA 4 (pO 300000 0),dA 5 pI,dA 6 pI,dA 7 pI] [dA 300000 zbl]) (λx=>(x.1.va.1,x.1.va.2.1)) (λx s=>((x.1.1,(),x.1.2.2.1,s.1,s.2,()),(x.2.1,()))) (λx=> .sum (.leaf (Unit) (λt=>(Ex.ret,⟨[(2,V.own 300000 0),(3,oC false)],[(300000,Cell.arr false true 0 1 [])]⟩))) (.leaf (Int×Int) (λt=>(Ex.exit 2,⟨[(0,DC 4 x.1.1),(4,V.own 300000 0),(5,iE x.1.2.2.1),(6,iE t.1),(7,iE t.2),(24,oC false)],[(300000,Cell.arr false true 0 1 x.2.1)]⟩)))) (λx=>M.zX x.1.1 x.1.2.2.1 x.2.1) [] [] (by rintro _ _ ⟨_,_⟩ _ _<;>simp only[M.zX,nb]<;>rfl)
def M.zY(l:ak)(s:Int×ak)(kn:Int×ak->Option R)(ke:(Unit)⊕(Int×ak)->Option R):Option R:=match s with
 |(i,x')=>bif decide (i<(↑l.length:Int)) then((idx l i).bind λa=>(cSl 1 a 3).bind λe=>(M.wG l i x' (i,i64.wrap ((↑e.length:Int) - 1))).bind λb=>jX b (λg=>ke (.inl ())) λd=>letE d λc=>oq x' [[D.int .i64 c.1]] 8 λf=>kn (i64.wrap (i+1),f)) else ke (.inr (i,x'))
def M.F9 l s:=M.zY l s (λs=>some (Sum.inl s)) λt=>some (Sum.inr t)
def M.wH l s:=fH (M.F9 l) s
def F.wH:LE X0 186:=le 3 (Ik [dA 0 (pL false 4),dA 4 (pO 300000 0),dA 5 pI] [dA 300000 zbl]) (λx=>(x.1.2.2.1,x.2.1)) (λx s=>((x.1.1,(),s.1,()),(s.2,()))) (λx=> .sum (.leaf (Unit) (λt=>(Ex.ret,⟨[(2,V.own 300000 0),(3,oC false)],[(300000,Cell.arr false true 0 1 [])]⟩))) (.leaf (Int×ak) (λt=>(Ex.exit 0,⟨[(0,DC 4 x.1.1),(4,V.own 300000 0),(5,iE t.1),(12,oC false)],[(300000,Cell.arr false true 0 1 t.2)]⟩)))) (λx=>M.zY x.1.1) [] [F.wG] (by rintro _ _ ⟨_,_⟩ _ _<;>simp only[oq,M.zY,nb]<;>rfl)
abbrev M.LZ(l:ak)(k:ak×Bool->Option R):=(M.wH l (0,[])).bind λb=>jX b (λd=>k ([],false)) λc=>letE c λa=>cond (aj a.2) (k (a.2,true)) none
def M.yQ l:=M.LZ l some
def C.yQ:=fTa S.yQ (λx=>M.LZ x.1.1) [] [F.wH]
def M.Ji(l:ak)(s:Int)(kn:Int->Option R)(ke:(Unit)⊕(Int)->Option R):Option R:=match s with
 |i=>bif decide (i<(↑l.length:Int)) then((idx l i).bind λa=>(jq .i64 a 0).bind λf=>(jq .i64 a 1).bind λd=>(cStr a 2).bind λc=>(cSl 1 a 3).bind λb=>(M.Eb f d c b).bind λe=>bif !e then(ke (.inl ())) else kn (i64.wrap (i+1))) else ke (.inr i)
def M.Og l s:=M.Ji l s (λs=>some (Sum.inl s)) λt=>some (Sum.inr t)
def M.TD l s:=fH (M.Og l) s
def F.TD:LE X0 170:=le 4 (Ik [dA 0 (pL false 4),dA 3 pI] []) (λx=>x.1.2.1) (λx s=>((x.1.1,s,()),())) (λx=> .sum (.leaf (Unit) (λt=>(Ex.ret,⟨[(2,oC false)],[]⟩))) (.leaf (Int) (λt=>(Ex.exit 0,⟨[(0,DC 4 x.1.1),(3,iE t),(13,oC false)],[]⟩)))) (λx=>M.Ji x.1.1) [fe C.Eb] [] (by rintro _ _ _ _ _<;>simp only[M.Ji,nb]<;>rfl)
abbrev M.Vl(l:ak)(k:Bool->Option R):=(M.dQ ((↑l.length:Int)) 1 4000).bind λe=>cond (!e) (k false) ((M.TD l 0).bind λd=>jX d (λg=>k false) λb=>letE b λi=>(M.yQ l).bind λa=>cond a.2 ((idx a.1 (i64.wrap ((↑l.length:Int) - 1))).bind λh=>(a.1[(i64.wrap ((↑l.length:Int) - 1)).toNat]?).bind λc=>(jq .i64 c 0).bind λf=>k (f==0)) (k false))
def M.KD l:=M.Vl l some
def C.KD:=fTa S.KD (λx=>M.Vl x.1.1) [fe C.dQ,fe C.yQ] [F.TD]
def M.Ce(l:ak)(s:Int×ak)(kn:Int×ak->Option R)(ke:(Unit)⊕(Int×ak)->Option R):Option R:=match s with
 |(i,x')=>bif decide (i<(↑l.length:Int)) then((idx l i).bind λc=>(jq .i64 c 0).bind λb=>bif b==1 then((idx l i).bind λd=>(cStr d 2).bind λa=>bif((x'.length+(List.map byteRow a).length) * 1).ble 140737488355328 then(bif(x'.length+(List.map byteRow a).length).ble 140737488355328 then(kn (i64.wrap (i+1),x'++List.map byteRow a)) else none) else none) else bif b==2 then(bif((x'.length+1) * 1).ble 140737488355328 then(bif(x'.length+1).ble 140737488355328 then(kn (i64.wrap (i+1),x'++[[D.int IntKind.u8 32]])) else none) else none) else bif b==3 then(ke (.inl ())) else kn (i64.wrap (i+1),x')) else ke (.inr (i,x'))
def M.Ci l s:=M.Ce l s (λs=>some (Sum.inl s)) λt=>some (Sum.inr t)
def M.rD l s:=fH (M.Ci l) s
def F.rD:LE X0 140:=le 5 (Ik [dA 0 (pL false 4),dA 4 (pO 300000 0),dA 5 pI] [dA 300000 zbl]) (λx=>(x.1.2.2.1,x.2.1)) (λx s=>((x.1.1,(),s.1,()),(s.2,()))) (λx=> .sum (.leaf (Unit) (λt=>(Ex.ret,⟨[(2,V.d (D.str [])),(3,oC false)],[]⟩))) (.leaf (Int×ak) (λt=>(Ex.exit 0,⟨[(0,DC 4 x.1.1),(4,V.own 300000 0),(5,iE t.1),(13,oC false)],[(300000,Cell.arr false true 0 1 t.2)]⟩)))) (λx=>M.Ce x.1.1) [] [] (by rintro _ _ ⟨_,_⟩ _ _<;>simp only[M.Ce,nb]<;>rfl)
abbrev M.Oh(l:ak)(k:aC×Bool->Option R):=(M.KD l).bind λd=>cond (!d) (k ([],false)) ((M.rD l (0,[])).bind λe=>jX e (λf=>k ([],false)) λa=>letE a λb=>(bytesOf b.2).bind λc=>k (c,true))
def M.yI l:=M.Oh l some
def C.yI:=fTa S.yI (λx=>M.Oh x.1.1) [fe C.KD] [F.rD]
abbrev M.Oi(l:ak)(p:Int)(p1 p2 p3 p4:Bool)(k:aC->Option R):=(M.Il l p p1 p2 p3 p4).bind λb=>(M.yI (aB b)).bind λa=>k a.1
def M.sQ l p p1 p2 p3 p4:=M.Oi l p p1 p2 p3 p4 some
def C.sQ:=fTa S.sQ (λx=>M.Oi x.1.1 x.1.2.1.1 x.1.2.1.2.1 x.1.2.1.2.2.1 x.1.2.1.va.1 x.1.2.1.va.2.1) [fe C.Il,fe C.yI]
abbrev M.IB(zZ:Int×ak×Int×Int)(KL:aC)(k:aC×ak×Int×Int->Option R):=(M.dw ([[D.str [112,114,105,110,116]],[D.str [112,114,105,110,116,102,32]]]) zZ.2.1 zZ.2.2.1 zZ.2.2.2).bind λb=>(M.dw ([[D.str []],[D.str [32]],[D.str [32,120,44,32]],[D.str [32,120,44,10]]]) b.2.1 b.2.2.1 b.2.2.2).bind λa=>cond ((b.1.length+a.1.length).ble 9223372036854775807) (cond (((b.1++a.1).length+KL.length).ble 9223372036854775807) ((M.dw ([[D.str []],[D.str []],[D.str [32,62,32,34,102,34]],[D.str [32,62,62,32,34,102,34,32,120]],[D.str [32,124,32,34,115,111,114,116,34]]]) a.2.1 a.2.2.1 a.2.2.2).bind λc=>cond (((b.1++a.1++KL).length+c.1.length).ble 9223372036854775807) (k (b.1++a.1++KL++c.1,c.2)) none) none) none
abbrev M.Jj(zZ:Int×ak×Int×Int)(KL:aC)(dN:zaf)(deep:Int)(k:aC×ak×Int×Int->Option R)(rE:zaf):=cond (zZ.1==0) (cond ((4+KL.length).ble 9223372036854775807) (cond ((([105,102,32,40]++KL).length+2).ble 9223372036854775807) ((dN (i64.wrap (deep - 1)) zZ.2.1 zZ.2.2.1 zZ.2.2.2).bind λg=>cond ((([105,102,32,40]++KL++[41,32]).length+g.1.length).ble 9223372036854775807) (k ([105,102,32,40]++KL++[41,32]++g.1,g.2)) none) none) none) (cond (zZ.1==1) (cond ((4+KL.length).ble 9223372036854775807) (cond ((([105,102,32,40]++KL).length+3).ble 9223372036854775807) ((rE (i64.wrap (deep - 1)) zZ.2.1 zZ.2.2.1 zZ.2.2.2).bind λd=>cond ((([105,102,32,40]++KL++[41,32,123]).length+d.1.length).ble 9223372036854775807) (cond ((([105,102,32,40]++KL++[41,32,123]++d.1).length+7).ble 9223372036854775807) ((dN (i64.wrap (deep - 1)) d.2.1 d.2.2.1 d.2.2.2).bind λh=>cond ((([105,102,32,40]++KL++[41,32,123]++d.1++[125,32,101,108,115,101,32]).length+h.1.length).ble 9223372036854775807) (k ([105,102,32,40]++KL++[41,32,123]++d.1++[125,32,101,108,115,101,32]++h.1,h.2)) none) none) none) none) none) (cond (zZ.1==2) (cond ((7+KL.length).ble 9223372036854775807) (cond ((([119,104,105,108,101,32,40]++KL).length+1).ble 9223372036854775807) ((M.dw ([[D.str [32]],[D.str [10]],[D.str [59]]]) zZ.2.1 zZ.2.2.1 zZ.2.2.2).bind λf=>cond ((([119,104,105,108,101,32,40]++KL++[41]).length+f.1.length).ble 9223372036854775807) ((dN (i64.wrap (deep - 1)) f.2.1 f.2.2.1 f.2.2.2).bind λj=>cond ((([119,104,105,108,101,32,40]++KL++[41]++f.1).length+j.1.length).ble 9223372036854775807) (k ([119,104,105,108,101,32,40]++KL++[41]++f.1++j.1,j.2)) none) none) none) none) (cond (zZ.1==3) ((dN (i64.wrap (deep - 1)) zZ.2.1 zZ.2.2.1 zZ.2.2.2).bind λa=>cond ((3+a.1.length).ble 9223372036854775807) ((M.dw ([[D.str [59,32]],[D.str [10]]]) a.2.1 a.2.2.1 a.2.2.2).bind λb=>cond ((([100,111,32]++a.1).length+b.1.length).ble 9223372036854775807) (cond ((([100,111,32]++a.1++b.1).length+7).ble 9223372036854775807) (cond ((([100,111,32]++a.1++b.1++[119,104,105,108,101,32,40]).length+KL.length).ble 9223372036854775807) (cond ((([100,111,32]++a.1++b.1++[119,104,105,108,101,32,40]++KL).length+1).ble 9223372036854775807) (k ([100,111,32]++a.1++b.1++[119,104,105,108,101,32,40]++KL++[41],b.2)) none) none) none) none) none) (cond (zZ.1==4) ((M.dw ([[D.str [105,32,61,32,48,59,32,105,32,60,32,51,59,32,105,43,43]],[D.str [59,59]],[D.str [107,32,105,110,32,97]],[D.str [40,107,32,105,110,32,97,41,59,59]],[D.str [105,32,61,32,49,59,59,105,43,43]]]) zZ.2.1 zZ.2.2.1 zZ.2.2.2).bind λc=>cond ((5+c.1.length).ble 9223372036854775807) (cond ((([102,111,114,32,40]++c.1).length+2).ble 9223372036854775807) ((dN (i64.wrap (deep - 1)) c.2.1 c.2.2.1 c.2.2.2).bind λi=>cond ((([102,111,114,32,40]++c.1++[41,32]).length+i.1.length).ble 9223372036854775807) (k ([102,111,114,32,40]++c.1++[41,32]++i.1,i.2)) none) none) none) (cond (zZ.1==5) ((rE (i64.wrap (deep - 1)) zZ.2.1 zZ.2.2.1 zZ.2.2.2).bind λe=>cond ((1+e.1.length).ble 9223372036854775807) (cond ((([123]++e.1).length+1).ble 9223372036854775807) (k ([123]++e.1++[125],e.2)) none) none) (cond (zZ.1==6) (M.IB zZ KL k) (cond (zZ.1==7) (M.IB zZ KL k) (cond (zZ.1==8) ((M.dw ([[D.str [110,101,120,116]],[D.str [101,120,105,116]],[D.str [114,101,116,117,114,110]],[D.str [98,114,101,97,107]],[D.str [99,111,110,116,105,110,117,101]],[D.str [100,101,108,101,116,101,32,97]],[D.str [100,101,108,101,116,101,32,97,91,49,44,32,120,93]],[D.str [101,120,105,116,32,49]]]) zZ.2.1 zZ.2.2.1 zZ.2.2.2).bind λl=>k (l)) (cond (zZ.1==9) (cond ((5+KL.length).ble 9223372036854775807) (cond ((([120,32,61,32,40]++KL).length+1).ble 9223372036854775807) (k ([120,32,61,32,40]++KL++[41],zZ.2)) none) none) (k (KL,zZ.2)))))))))))
def M.Cj(dN:zaf)(rE:zaf)(deep:Int)(c:ak)(c1 c2:Int)(k:aC×ak×Int×Int->Option R):=(M.bM 2 c c1 c2).bind λf=>(M.ny (i64.wrap (1+f.1)) f.2.1 f.2.2.1 f.2.2.2).bind λg=>M.oD.bind λd=>(M.sQ (aB g.1) d.1 d.2.1 d.2.2.1 d.2.2.2.1 d.2.2.2.2).bind λi=>(M.bM 14 g.2.1 g.2.2.1 g.2.2.2).bind λh=>cond (decide (deep<=0)) (cond (decide (h.1<6)) ((M.dw ([[D.str [112,114,105,110,116]],[D.str [112,114,105,110,116,102,32]]]) h.2.1 h.2.2.1 h.2.2.2).bind λa=>(M.dw ([[D.str []],[D.str [32]],[D.str [32,120,44,32]],[D.str [32,120,44,10]]]) a.2.1 a.2.2.1 a.2.2.2).bind λb=>cond ((a.1.length+b.1.length).ble 9223372036854775807) (cond (((a.1++b.1).length+i.length).ble 9223372036854775807) ((M.dw ([[D.str []],[D.str []],[D.str [32,62,32,34,102,34]],[D.str [32,62,62,32,34,102,34,32,120]],[D.str [32,124,32,34,115,111,114,116,34]]]) b.2.1 b.2.2.1 b.2.2.2).bind λe=>cond (((a.1++b.1++i).length+e.1.length).ble 9223372036854775807) (k (a.1++b.1++i++e.1,e.2)) none) none) none) (M.Jj h i dN deep k rE)) (M.Jj h i dN deep k rE)
def C.aik{dN:zaf}{rE:zaf}(KN:S.AO.ok X0 λx=>dN x.1.2.1 x.2.1.1 x.2.1.2.1 x.2.1.2.2.1)(aj3:S.tJ.ok X0 λx=>rE x.1.2.1 x.2.1.1 x.2.1.2.1 x.2.1.2.2.1):S.AO.ok X0 λx=>M.Cj dN rE x.1.2.1 x.2.1.1 x.2.1.2.1 x.2.1.2.2.1 some:=fnS (λx=>M.Cj dN rE x.1.2.1 x.2.1.1 x.2.1.2.1 x.2.1.2.2.1) [fe C.bM,fe C.ny,fe C.oD,fe C.sQ,fe C.dw,fe KN,fe aj3] [] (by intros;unfold M.Cj M.Jj;exact zbK)
def M.JQ(dN:zaf)(deep:Int)(s:aC×Int×ak×Int×Int)(kn:aC×Int×ak×Int×Int->Option R)(ke:aC×Int×ak×Int×Int->Option R):Option R:=match s with
 |(s',n',v,v1,v2)=>bif decide (n'>0) then((M.dw ([[D.str []],[D.str [10]],[D.str [32]],[D.str [35,32,99,10]],[D.str [59,32]]]) v v1 v2).bind λa=>bif(s'.length+a.1.length).ble 9223372036854775807 then((dN deep a.2.1 a.2.2.1 a.2.2.2).bind λb=>bif((s'++a.1).length+b.1.length).ble 9223372036854775807 then((M.dw ([[D.str [59]],[D.str [10]],[D.str [10]],[D.str [32,35,32,116,10]],[D.str [59,10]]]) b.2.1 b.2.2.1 b.2.2.2).bind λc=>bif((s'++a.1++b.1).length+c.1.length).ble 9223372036854775807 then(kn (s'++a.1++b.1++c.1,i64.wrap (n' - 1),c.2.1,c.2.2.1,c.2.2.2)) else none) else none) else none) else ke (s',n',v,v1,v2)
def M.Qk dN deep s:=M.JQ dN deep s (λs=>some (Sum.inl s)) λt=>some (Sum.inr t)
def M.zT dN deep s:=fH (M.Qk dN deep) s
def F.zT{dN:zaf}(KN:S.AO.ok X0 λx=>dN x.1.2.1 x.2.1.1 x.2.1.2.1 x.2.1.2.2.1):LE X0 98:=le 3 (Ik [dA 0 (pP 100000 0),dA 1 pI,dA 5 pS,dA 6 pI] [dA 100000 (cB 60 zbw)]) (λx=>(x.1.2.2.1,x.1.va.1,x.2.1.1,x.2.1.2.1,x.2.1.2.2.1)) (λx s=>(((),x.1.2.1,s.1,s.2.1,()),((s.2.2.1,s.va.1,s.va.2,()),()))) (λx=> .leaf zaR (λt=>(Ex.exit 0,⟨[(0,V.ptr 100000 0),(1,iE x.1.2.1),(5,qw t.1),(6,iE t.2.1),(10,oC false)],[(100000,Cell.box 60 [DC 1 t.2.2.1,iE t.va.1,iE t.va.2])]⟩))) (λx=>M.JQ dN x.1.2.1) [fe C.dw,fe KN] [] (by rintro _ _ ⟨_,_,_,_,_⟩ _ _<;>simp only[M.JQ,nb]<;>rfl)
def M.Cm(dN:zaf)(deep:Int)(c:ak)(c1 c2:Int)(k:aC×ak×Int×Int->Option R):=(M.bM 3 c c1 c2).bind λb=>(M.zT dN deep ([],b)).bind λa=>k (a.1,a.2.2)
def C.ail{dN:zaf}(KN:S.AO.ok X0 λx=>dN x.1.2.1 x.2.1.1 x.2.1.2.1 x.2.1.2.2.1):S.tJ.ok X0 λx=>M.Cm dN x.1.2.1 x.2.1.1 x.2.1.2.1 x.2.1.2.2.1 some:=fnS (λx=>M.Cm dN x.1.2.1 x.2.1.1 x.2.1.2.1 x.2.1.2.2.1) [fe C.bM] [F.zT KN] (by intros;simp only[M.Cm,nb]<;>rfl)
def M.CB:Nat->(zaf)×(zaf):=Nat.rec (λ_ _ _ _=>none,λ_ _ _ _=>none) λ_ qz=>(λdeep c c1 c2=>M.Cm qz.2 deep c c1 c2 some,λdeep c c1 c2=>M.Cj qz.2 qz.1 deep c c1 c2 some)
def M.He n:=(M.CB n).1
def M.CG n:=(M.CB n).2
def M.aj6(n:Nat):M.He (n+1)=λdeep c c1 c2=>M.Cm (M.CG n) deep c c1 c2 some:=rfl
def M.aj7(n:Nat):M.CG (n+1)=λdeep c c1 c2=>M.Cj (M.CG n) (M.He n) deep c c1 c2 some:=rfl
def M.tJ deep c c1 c2:=lim λn=>M.He n deep c c1 c2
def M.AO deep c c1 c2:=lim λn=>M.CG n deep c c1 c2
def C.CB:∀n,(S.tJ.ok X0 λx=>M.He n x.1.2.1 x.2.1.1 x.2.1.2.1 x.2.1.2.2.1)/\(S.AO.ok X0 λx=>M.CG n x.1.2.1 x.2.1.1 x.2.1.2.1 x.2.1.2.2.1)
 |0=>⟨eP.zero,eP.zero⟩
 |n+1=>have h:=C.CB n;⟨C.ail h.2,C.aik h.2 h.1⟩
def C.tJ:S.tJ.ok X0 λx=>M.tJ x.1.2.1 x.2.1.1 x.2.1.2.1 x.2.1.2.2.1:=eP.lim λn=>(C.CB n).1
def M.ain{n:Nat}{deep:Int}{c:ak}{c1 c2:Int}{r:aC×ak×Int×Int}(h:M.He n deep c c1 c2=some r):M.tJ deep c c1 c2=some r:=eP.Ij (λn=>(C.CB n).1) (by intro a b h;simp[S.tJ,sg] at h;first|exact h|simp[Prod.ext_iff,h]) (x:=(((),deep,()),((c,c1,c2,()),()))) h
def C.AO:S.AO.ok X0 λx=>M.AO x.1.2.1 x.2.1.1 x.2.1.2.1 x.2.1.2.2.1:=eP.lim λn=>(C.CB n).2
abbrev M.Ql(c:ak)(c1 c2:Int)(k:aC×ak×Int×Int->Option R):=(M.tJ 2 c c1 c2).bind λa=>cond ((2+a.1.length).ble 9223372036854775807) (cond ((([32,123]++a.1).length+1).ble 9223372036854775807) ((M.ny 1 a.2.1 a.2.2.1 a.2.2.2).bind λl=>M.oD.bind λj=>(M.sQ (aB l.1) j.1 j.2.1 j.2.2.1 j.2.2.2.1 j.2.2.2.2).bind λd=>(M.bM 6 l.2.1 l.2.2.1 l.2.2.2).bind λb=>cond (b.1==0) ((M.dw ([[D.str [66,69,71,73,78]],[D.str [69,78,68]]]) b.2.1 b.2.2.1 b.2.2.2).bind λh=>cond ((h.1.length+([32,123]++a.1++[125]).length).ble 9223372036854775807) (k (h.1++([32,123]++a.1++[125]),h.2)) none) (cond (b.1==1) ((M.dw ([[D.str [102,40]],[D.str [102,32,40]]]) b.2.1 b.2.2.1 b.2.2.2).bind λe=>cond ((9+e.1.length).ble 9223372036854775807) ((M.dw ([[D.str []],[D.str [120]],[D.str [120,44,32,121]],[D.str [120,44,10,121]]]) e.2.1 e.2.2.1 e.2.2.2).bind λf=>cond ((([102,117,110,99,116,105,111,110,32]++e.1).length+f.1.length).ble 9223372036854775807) (cond ((([102,117,110,99,116,105,111,110,32]++e.1++f.1).length+1).ble 9223372036854775807) ((M.dw ([[D.str []],[D.str [10]],[D.str [32,35,32,100,10]]]) f.2.1 f.2.2.1 f.2.2.2).bind λg=>cond ((([102,117,110,99,116,105,111,110,32]++e.1++f.1++[41]).length+g.1.length).ble 9223372036854775807) (cond ((([102,117,110,99,116,105,111,110,32]++e.1++f.1++[41]++g.1).length+([32,123]++a.1++[125]).length).ble 9223372036854775807) (k ([102,117,110,99,116,105,111,110,32]++e.1++f.1++[41]++g.1++([32,123]++a.1++[125]),g.2)) none) none) none) none) none) (cond (b.1==2) (k (d,b.2)) (cond (b.1==3) (cond ((d.length+2).ble 9223372036854775807) (cond (((d++[44,32]).length+d.length).ble 9223372036854775807) ((M.dw ([[D.str []],[D.str ([32,123]++a.1++[125])]]) b.2.1 b.2.2.1 b.2.2.2).bind λi=>cond (((d++[44,32]++d).length+i.1.length).ble 9223372036854775807) (k (d++[44,32]++d++i.1,i.2)) none) none) none) (cond (b.1==4) (k ([32,123]++a.1++[125],b.2)) (cond ((d.length+([32,123]++a.1++[125]).length).ble 9223372036854775807) (k (d++([32,123]++a.1++[125]),b.2)) none)))))) none) none
def M.Ec c c1 c2:=M.Ql c c1 c2 some
def C.Ec:=fTa S.Ec (λx=>M.Ql x.2.1.1 x.2.1.2.1 x.2.1.2.2.1) [fe C.tJ,fe C.ny,fe C.oD,fe C.sQ,fe C.bM,fe C.dw]
def M.Gf(s:aC×Int×ak×Int×Int)(kn:aC×Int×ak×Int×Int->Option R)(ke:aC×Int×ak×Int×Int->Option R):Option R:=match s with
 |(s',n',v,v1,v2)=>bif decide (n'>0) then((M.dw ([[D.str []],[D.str [10]],[D.str [35,32,116,111,112,10]],[D.str []]]) v v1 v2).bind λa=>bif(s'.length+a.1.length).ble 9223372036854775807 then((M.Ec a.2.1 a.2.2.1 a.2.2.2).bind λb=>bif((s'++a.1).length+b.1.length).ble 9223372036854775807 then((M.dw ([[D.str [10]],[D.str [10,10]],[D.str [59]],[D.str [32,35,32,101,10]]]) b.2.1 b.2.2.1 b.2.2.2).bind λc=>bif((s'++a.1++b.1).length+c.1.length).ble 9223372036854775807 then(kn (s'++a.1++b.1++c.1,i64.wrap (n' - 1),c.2.1,c.2.2.1,c.2.2.2)) else none) else none) else none) else ke (s',n',v,v1,v2)
def M.MZ s:=M.Gf s (λs=>some (Sum.inl s)) λt=>some (Sum.inr t)
def M.wI s:=fH (M.MZ) s
def F.wI:LE X0 28:=le 3 (Ik [dA 0 (pP 100000 0),dA 3 pS,dA 4 pI] [dA 100000 (cB 60 zbw)]) (λx=>(x.1.2.1,x.1.2.2.1,x.2.1.1,x.2.1.2.1,x.2.1.2.2.1)) (λx s=>(((),s.1,s.2.1,()),((s.2.2.1,s.va.1,s.va.2,()),()))) (λx=> .leaf zaR (λt=>(Ex.exit 0,⟨[(0,V.ptr 100000 0),(3,qw t.1),(4,iE t.2.1),(8,oC false)],[(100000,Cell.box 60 [DC 1 t.2.2.1,iE t.va.1,iE t.va.2])]⟩))) (λx=>M.Gf) [fe C.dw,fe C.Ec] [] (by rintro _ _ ⟨_,_,_,_,_⟩ _ _<;>simp only[M.Gf,nb]<;>rfl)
abbrev M.L6(c:ak)(c1 c2:Int)(k:aC×ak×Int×Int->Option R):=(M.bM 4 c c1 c2).bind λb=>(M.wI ([],b)).bind λa=>k (a.1,a.2.2)
def M.vY c c1 c2:=M.L6 c c1 c2 some
def C.vY:=fTa S.vY (λx=>M.L6 x.2.1.1 x.2.1.2.1 x.2.1.2.2.1) [fe C.bM] [F.wI]
def M.L8(style:Int)(s:Int×ak×Int×Int×ak)(kn:Int×ak×Int×Int×ak->Option R)(ke:Int×ak×Int×Int×ak->Option R):Option R:=match s with
 |(n',v,v1,v2,x')=>bif decide (n'>0) then((M.ng v v1 v2).bind λa=>bif style==1 then(bif style==2 then(oq x' [[D.int IntKind.u8 (IntKind.u8.wrap (i64.wrap (97+(a.1.tmod 2).tmod 4)))]] 1 λza=>kn (i64.wrap (n' - 1),a.2.1,a.2.2.1,a.2.2.2,za)) else oq x' [[D.int IntKind.u8 (IntKind.u8.wrap (a.1.tmod 2))]] 1 λza=>kn (i64.wrap (n' - 1),a.2.1,a.2.2.1,a.2.2.2,za)) else bif style==2 then(oq x' [[D.int IntKind.u8 (IntKind.u8.wrap (i64.wrap (97+a.1.tmod 4)))]] 1 λza=>kn (i64.wrap (n' - 1),a.2.1,a.2.2.1,a.2.2.2,za)) else oq x' [[D.int IntKind.u8 (IntKind.u8.wrap a.1)]] 1 λza=>kn (i64.wrap (n' - 1),a.2.1,a.2.2.1,a.2.2.2,za)) else ke (n',v,v1,v2,x')
def M.RV style s:=M.L8 style s (λs=>some (Sum.inl s)) λt=>some (Sum.inr t)
def M.Hf style s:=fH (M.RV style) s
def F.Hf:LE X0 58:=le 4 (Ik [dA 0 (pP 100000 0),dA 5 (pO 300000 0),dA 6 pI,dA 7 pI] [dA 100000 (cB 60 zbw),dA 300000 zbl]) (λx=>(x.1.va.1,x.2.1.1,x.2.1.2.1,x.2.1.2.2.1,x.2.2.1)) (λx s=>(((),(),x.1.2.2.1,s.1,()),((s.2.1,s.2.2.1,s.va.1,()),s.va.2,()))) (λx=> .leaf zaL (λt=>(Ex.exit 0,⟨[(0,V.ptr 100000 0),(5,V.own 300000 0),(6,iE x.1.2.2.1),(7,iE t.1),(17,oC false)],[(100000,Cell.box 60 [DC 1 t.2.1,iE t.2.2.1,iE t.va.1]),(300000,Cell.arr false true 0 1 t.va.2)]⟩))) (λx=>M.L8 x.1.2.2.1) [fe C.ng] [] (by rintro _ _ ⟨_,_,_,_,_⟩ _ _<;>simp only[oq,M.L8,nb]<;>rfl)
abbrev M.TF(most:Int)(c:ak)(c1 c2:Int)(k:aC×ak×Int×Int->Option R):=(M.bM 4 c c1 c2).bind λa=>(M.bM (i64.wrap (most+1)) a.2.1 a.2.2.1 a.2.2.2).bind λd=>(M.Hf a.1 (d.1,d.2.1,d.2.2.1,d.2.2.2,[])).bind λb=>(bytesOf b.2.2.2.2).bind λe=>k (e,b.2.1,b.2.2.1,b.2.2.2.1)
def M.Ia most c c1 c2:=M.TF most c c1 c2 some
def C.Ia:=fTa S.Ia (λx=>M.TF x.1.2.1 x.2.1.1 x.2.1.2.1 x.2.1.2.2.1) [fe C.bM] [F.Hf]
abbrev M.Qm(s':aC)(c:ak)(c1 c2:Int)(k:aC×ak×Int×Int->Option R):=cond ((↑s'.length:Int)==0) ((M.Ia 3 c c1 c2).bind λf=>k (f)) ((M.bM ((↑s'.length:Int)) c c1 c2).bind λb=>(M.bM 4 b.2.1 b.2.2.1 b.2.2.2).bind λa=>cond (a.1==0) ((cut s' 0 b.1).bind λl=>(cut s' (i64.wrap (b.1+1)) (↑s'.length:Int)).bind λn=>cond ((l.length+n.length).ble 9223372036854775807) (k (l++n,a.2)) none) (cond (a.1==1) ((cut s' 0 b.1).bind λi=>(M.ng a.2.1 a.2.2.1 a.2.2.2).bind λe=>cond ((i.length+[UInt8.ofNat (IntKind.u8.wrap e.1).toNat].length).ble 9223372036854775807) ((cut s' b.1 (↑s'.length:Int)).bind λm=>cond (((i++[UInt8.ofNat (IntKind.u8.wrap e.1).toNat]).length+m.length).ble 9223372036854775807) (k (i++[UInt8.ofNat (IntKind.u8.wrap e.1).toNat]++m,e.2)) none) none) (cond (a.1==2) ((cut s' 0 b.1).bind λo=>k (o,a.2)) ((cut s' 0 b.1).bind λg=>(idx s' b.1).bind λh=>(M.bM 255 a.2.1 a.2.2.1 a.2.2.2).bind λd=>cond ((g.length+[UInt8.ofNat (IntKind.u8.wrap (i64.wrap (↑(BitVec.ofInt 64 (i64.wrap (↑h.toNat:Int)) ^^^ BitVec.ofInt 64 (i64.wrap (1+d.1))).toNat:Int))).toNat].length).ble 9223372036854775807) ((cut s' (i64.wrap (b.1+1)) (↑s'.length:Int)).bind λj=>cond (((g++[UInt8.ofNat (IntKind.u8.wrap (i64.wrap (↑(BitVec.ofInt 64 (i64.wrap (↑h.toNat:Int)) ^^^ BitVec.ofInt 64 (i64.wrap (1+d.1))).toNat:Int))).toNat]).length+j.length).ble 9223372036854775807) (k (g++[UInt8.ofNat (IntKind.u8.wrap (i64.wrap (↑(BitVec.ofInt 64 (i64.wrap (↑h.toNat:Int)) ^^^ BitVec.ofInt 64 (i64.wrap (1+d.1))).toNat:Int))).toNat]++j,d.2)) none) none))))
def M.yJ s' c c1 c2:=M.Qm s' c c1 c2 some
def C.yJ:=fTa S.yJ (λx=>M.Qm x.1.2.1 x.2.1.1 x.2.1.2.1 x.2.1.2.2.1) [fe C.Ia,fe C.bM,fe C.ng]
abbrev M.Qn(c:ak)(c1 c2:Int)(k:Int×aC×Int×ak×Int×Int->Option R):=(M.bM 10 c c1 c2).bind λa=>cond (a.1==0) ((M.Fp a.2.1 a.2.2.1 a.2.2.2).bind λg=>k (3,g.1,0,g.2)) (cond (a.1==1) ((M.Fq a.2.1 a.2.2.1 a.2.2.2).bind λe=>k (4,e.1,0,e.2)) (cond (a.1==2) ((M.Fv a.2.1 a.2.2.1 a.2.2.2).bind λf=>k (5,f.1,0,f.2)) (cond (a.1==3) ((M.ni a.2.1 a.2.2.1 a.2.2.2).bind λi=>k (6,i.1,0,i.2)) (cond (a.1==4) ((M.ni a.2.1 a.2.2.1 a.2.2.2).bind λh=>k (6,h.1,0,h.2)) (cond (a.1==5) (M.qR.bind λm=>(M.dw m a.2.1 a.2.2.1 a.2.2.2).bind λj=>k (8,j.1,0,j.2)) (cond (a.1==6) ((M.bM 17 a.2.1 a.2.2.1 a.2.2.2).bind λd=>(M.jo (i64.wrap (10+d.1))).bind λn=>k (i64.wrap (10+d.1),n,0,d.2)) ((M.bM 39 a.2.1 a.2.2.1 a.2.2.2).bind λb=>(M.jo (i64.wrap (30+b.1))).bind λl=>k (i64.wrap (30+b.1),l,0,b.2))))))))
def M.vZ c c1 c2:=M.Qn c c1 c2 some
def C.vZ:=fTa S.vZ (λx=>M.Qn x.2.1.1 x.2.1.2.1 x.2.1.2.2.1) [fe C.bM,fe C.Fp,fe C.Fq,fe C.Fv,fe C.ni,fe C.qR,fe C.dw,fe C.jo]
abbrev M.x9(kind:Int)(k:Bool->Option R):=cond (kind==3) (k true) (cond (kind==4) (k true) (cond (kind==5) (k true) (cond (kind==6) (k true) (cond (kind==8) (k true) (cond (kind==33) (k true) (cond (kind==35) (k true) (cond (kind==51) (k true) (cond (kind==52) (k true) (k false)))))))))
def M.fA kind:=M.x9 kind some
def C.fA:=fTa S.fA (λx=>M.x9 x.1.1)
abbrev M.ji(x':ak)(kn:Int×ak×Int×Int×ak->Option R)(n':Int)(Aa:Int×aC×Int×ak×Int×Int):=cond (((x'.length+1) * 32).ble 140737488355328) (cond ((x'.length+1).ble 140737488355328) (kn (i64.wrap (n' - 1),Aa.2.2.2.1,Aa.2.2.2.2.1,Aa.2.2.2.2.2,x'++[[D.int .i64 1,D.str [10],D.int .i64 0]])) none) none
abbrev M.wJ(aoe:Bool×ak×Int×Int)(x':ak)(kn:Int×ak×Int×Int×ak->Option R)(n':Int)(Aa:Int×aC×Int×ak×Int×Int):=cond aoe.1 ((M.dw ([[D.str [35]],[D.str [35,32,97]],[D.str [35,34,120]]]) aoe.2.1 aoe.2.2.1 aoe.2.2.2).bind λa=>cond (((x'.length+[[D.int .i64 2,D.str a.1,D.int .i64 0]].length) * 32).ble 140737488355328) (cond ((x'.length+[[D.int .i64 2,D.str a.1,D.int .i64 0]].length).ble 140737488355328) (cond ((((x'++[[D.int .i64 2,D.str a.1,D.int .i64 0]]).length+1) * 32).ble 140737488355328) (cond (((x'++[[D.int .i64 2,D.str a.1,D.int .i64 0]]).length+1).ble 140737488355328) (kn (i64.wrap (n' - 1),a.2.1,a.2.2.1,a.2.2.2,x'++[[D.int .i64 2,D.str a.1,D.int .i64 0]]++[[D.int .i64 1,D.str [10],D.int .i64 0]])) none) none) none) none) (cond (((x'.length+[[D.int .i64 Aa.1,D.str Aa.2.1,D.int .i64 Aa.2.2.1]].length) * 32).ble 140737488355328) (cond ((x'.length+[[D.int .i64 Aa.1,D.str Aa.2.1,D.int .i64 Aa.2.2.1]].length).ble 140737488355328) (kn (i64.wrap (n' - 1),aoe.2.1,aoe.2.2.1,aoe.2.2.2,x'++[[D.int .i64 Aa.1,D.str Aa.2.1,D.int .i64 Aa.2.2.1]])) none) none)
abbrev M.gQ(Aa:Int×aC×Int×ak×Int×Int)(x':ak)(kn:Int×ak×Int×Int×ak->Option R)(n':Int):=cond (Aa.1==6) ((M.rZ 4 Aa.2.2.2.1 Aa.2.2.2.2.1 Aa.2.2.2.2.2).bind λa=>cond a.1 (cond (((x'.length+[[D.int .i64 7,D.str Aa.2.1,D.int .i64 Aa.2.2.1]].length) * 32).ble 140737488355328) (cond ((x'.length+[[D.int .i64 7,D.str Aa.2.1,D.int .i64 Aa.2.2.1]].length).ble 140737488355328) (cond ((((x'++[[D.int .i64 7,D.str Aa.2.1,D.int .i64 Aa.2.2.1]]).length+1) * 32).ble 140737488355328) (cond (((x'++[[D.int .i64 7,D.str Aa.2.1,D.int .i64 Aa.2.2.1]]).length+1).ble 140737488355328) (kn (i64.wrap (n' - 1),a.2.1,a.2.2.1,a.2.2.2,x'++[[D.int .i64 7,D.str Aa.2.1,D.int .i64 Aa.2.2.1]]++[[D.int .i64 32,D.str [40],D.int .i64 0]])) none) none) none) none) ((M.rZ 20 a.2.1 a.2.2.1 a.2.2.2).bind λc=>M.wJ c x' kn n' Aa)) ((M.rZ 20 Aa.2.2.2.1 Aa.2.2.2.2.1 Aa.2.2.2.2.2).bind λb=>M.wJ b x' kn n' Aa)
def M.CJ(s:Int×ak×Int×Int×ak)(kn:Int×ak×Int×Int×ak->Option R)(ke:Int×ak×Int×Int×ak->Option R):Option R:=match s with
 |(n',v,v1,v2,x')=>bif decide (n'>0) then(bif decide ((↑x'.length:Int)>0) then((idx x' (i64.wrap ((↑x'.length:Int) - 1))).bind λo=>(x'[(i64.wrap ((↑x'.length:Int) - 1)).toNat]?).bind λf=>(jq .i64 f 0).bind λc=>(M.vZ v v1 v2).bind λb=>bif b.1==5 then((M.fA c).bind λe=>bif e then(M.ji x' kn n' b) else bif b.1==58 then((M.fA c).bind λg=>bif !g then(M.ji x' kn n' b) else M.gQ b x' kn n') else bif b.1==41 then((M.fA c).bind λd=>bif !d then(M.ji x' kn n' b) else M.gQ b x' kn n') else M.gQ b x' kn n') else bif b.1==58 then((M.fA c).bind λh=>bif !h then(M.ji x' kn n' b) else M.gQ b x' kn n') else bif b.1==41 then((M.fA c).bind λi=>bif !i then(M.ji x' kn n' b) else M.gQ b x' kn n') else M.gQ b x' kn n') else (M.vZ v v1 v2).bind λa=>bif a.1==5 then((M.fA 0).bind λm=>bif m then(M.ji x' kn n' a) else bif a.1==58 then((M.fA 0).bind λj=>bif !j then(M.ji x' kn n' a) else M.gQ a x' kn n') else bif a.1==41 then((M.fA 0).bind λn=>bif !n then(M.ji x' kn n' a) else M.gQ a x' kn n') else M.gQ a x' kn n') else bif a.1==58 then((M.fA 0).bind λk=>bif !k then(M.ji x' kn n' a) else M.gQ a x' kn n') else bif a.1==41 then((M.fA 0).bind λl=>bif !l then(M.ji x' kn n' a) else M.gQ a x' kn n') else M.gQ a x' kn n') else ke (n',v,v1,v2,x')
def M.IC s:=M.CJ s (λs=>some (Sum.inl s)) λt=>some (Sum.inr t)
def M.yc s:=fH (M.IC) s
def F.yc:LE X0 62:=le 3 (Ik [dA 0 (pP 100000 0),dA 5 (pO 300000 0),dA 6 pI] [dA 100000 (cB 60 zbw),dA 300000 (cA false true 0 3)]) (λx=>(x.1.2.2.1,x.2.1.1,x.2.1.2.1,x.2.1.2.2.1,x.2.2.1)) (λx s=>(((),(),s.1,()),((s.2.1,s.2.2.1,s.va.1,()),s.va.2,()))) (λx=> .leaf zaL (λt=>(Ex.exit 0,⟨[(0,V.ptr 100000 0),(5,V.own 300000 0),(6,iE t.1),(15,oC false)],[(100000,Cell.box 60 [DC 1 t.2.1,iE t.2.2.1,iE t.va.1]),(300000,Cell.arr false true 0 3 t.va.2)]⟩))) (λx=>M.CJ) [fe C.vZ,fe C.fA,fe C.rZ,fe C.dw] [] (by rintro _ _ ⟨_,_,_,_,_⟩ _ _<;>unfold M.CJ M.gQ M.wJ M.ji<;>exact zbK)
abbrev M.Oj(most:Int)(c:ak)(c1 c2:Int)(k:ak×ak×Int×Int->Option R):=(M.bM (i64.wrap (most+1)) c c1 c2).bind λf=>(M.yc (f.1,f.2.1,f.2.2.1,f.2.2.2,[])).bind λa=>cond (decide ((↑a.2.2.2.2.length:Int)>0)) ((M.rZ 10 a.2.1 a.2.2.1 a.2.2.2.1).bind λe=>cond e.1 ((M.bM ((↑a.2.2.2.2.length:Int)) e.2.1 e.2.2.1 e.2.2.2).bind λd=>(M.vZ d.2.1 d.2.2.1 d.2.2.2).bind λb=>(idx a.2.2.2.2 d.1).bind λh=>a.2.2.2.2[d.1.toNat]?.bind λg=>cond (aj (a.2.2.2.2.set d.1.toNat (splice g 0 [D.int .i64 b.1,D.str b.2.1,D.int .i64 b.2.2.1]))) (k (a.2.2.2.2.set d.1.toNat (splice g 0 [D.int .i64 b.1,D.str b.2.1,D.int .i64 b.2.2.1]),b.2.2.2)) none) (cond (aj a.2.2.2.2) (k (a.2.2.2.2,e.2)) none)) (cond (aj a.2.2.2.2) (k (a.2.2.2.2,a.2.1,a.2.2.1,a.2.2.2.1)) none)
def M.BA most c c1 c2:=M.Oj most c c1 c2 some
def C.BA:=fTa S.BA (λx=>M.Oj x.1.2.1 x.2.1.1 x.2.1.2.1 x.2.1.2.2.1) [fe C.bM,fe C.rZ,fe C.vZ] [F.yc]
def M.Jk(l:ak)(s:aC×Int)(kn:aC×Int->Option R)(ke:aC×Int->Option R):Option R:=match s with
 |(s',i)=>bif decide (i<(↑l.length:Int)) then(bif decide (i>0) then((idx l (i64.wrap (i - 1))).bind λb=>(jq .i64 b 0).bind λj=>(cStr b 1).bind λp=>(jq .i64 b 2).bind λk=>(idx l i).bind λa=>(jq .i64 a 0).bind λm=>(cStr a 1).bind λq=>(jq .i64 a 2).bind λh=>(M.vM j p k m q h).bind λf=>bif f then(bif(s'.length+1).ble 9223372036854775807 then((idx l i).bind λn=>(cStr n 1).bind λc=>bif((s'++[32]).length+c.length).ble 9223372036854775807 then(kn (s'++[32]++c,i64.wrap (i+1))) else none) else none) else (idx l i).bind λg=>(cStr g 1).bind λd=>bif(s'.length+d.length).ble 9223372036854775807 then(kn (s'++d,i64.wrap (i+1))) else none) else (idx l i).bind λo=>(cStr o 1).bind λe=>bif(s'.length+e.length).ble 9223372036854775807 then(kn (s'++e,i64.wrap (i+1))) else none) else ke (s',i)
def M.Ol l s:=M.Jk l s (λs=>some (Sum.inl s)) λt=>some (Sum.inr t)
def M.FQ l s:=fH (M.Ol l) s
def F.FQ:LE X0 61:=le 3 (Ik [dA 0 (pL false 3),dA 3 pS,dA 4 pI] []) (λx=>(x.1.2.1,x.1.2.2.1)) (λx s=>((x.1.1,s.1,s.2,()),())) (λx=> .leaf (aC×Int) (λt=>(Ex.exit 0,⟨[(0,DC 3 x.1.1),(3,qw t.1),(4,iE t.2),(8,oC false)],[]⟩))) (λx=>M.Jk x.1.1) [fe C.vM] [] (by rintro _ _ ⟨_,_⟩ _ _<;>simp only[M.Jk,nb]<;>rfl)
abbrev M.Vo(l:ak)(k:aC->Option R):=(M.FQ l ([],0)).bind λa=>k a.1
def M.OJ l:=M.Vo l some
def C.OJ:=fTa S.OJ (λx=>M.Vo x.1.1) [] [F.FQ]
abbrev M.Om(c:ak)(c1 c2:Int)(k:aC×ak×Int×Int->Option R):=(M.BA 14 c c1 c2).bind λg=>(M.OJ g.1).bind λe=>(M.bM 6 g.2.1 g.2.2.1 g.2.2.2).bind λa=>cond (a.1==0) ((M.yJ e a.2.1 a.2.2.1 a.2.2.2).bind λf=>k (f)) (cond (a.1==1) ((M.dw ([[D.str [92,10]],[D.str [32,9]],[D.str [97,98,99,100,101,102,103,104,105,106,107,108,109]],[D.str [64]],[D.str [34,111,112,101,110]],[D.str [47,120]],[D.str [46,46]],[D.str [35,32,101,110,100]]]) a.2.1 a.2.2.1 a.2.2.2).bind λb=>cond ((e.length+b.1.length).ble 9223372036854775807) ((M.dw ([[D.str []],[D.str [120]]]) b.2.1 b.2.2.1 b.2.2.2).bind λd=>cond (((e++b.1).length+d.1.length).ble 9223372036854775807) (k (e++b.1++d.1,d.2)) none) none) (k (e,a.2)))
def M.BD c c1 c2:=M.Om c c1 c2 some
def C.BD:=fTa S.BD (λx=>M.Om x.2.1.1 x.2.1.2.1 x.2.1.2.2.1) [fe C.BA,fe C.OJ,fe C.bM,fe C.yJ,fe C.dw]
abbrev M.TG(c:ak)(c1 c2:Int)(k:aC×ak×Int×Int->Option R):=(M.bM 8 c c1 c2).bind λa=>cond (a.1==0) ((M.vY a.2.1 a.2.2.1 a.2.2.2).bind λe=>(M.yJ e.1 e.2.1 e.2.2.1 e.2.2.2).bind λf=>k (f)) (cond (a.1==1) ((M.BD a.2.1 a.2.2.1 a.2.2.2).bind λb=>k (b)) ((M.vY a.2.1 a.2.2.1 a.2.2.2).bind λd=>k (d)))
def M.Ed c c1 c2:=M.TG c c1 c2 some
def C.Ed:=fTa S.Ed (λx=>M.TG x.2.1.1 x.2.1.2.1 x.2.1.2.2.1) [fe C.bM,fe C.vY,fe C.yJ,fe C.BD]
abbrev M.L9(code:ak)(k:aC->Option R):=(M.Ky code).bind λa=>(M.Ed a.1 a.2.1 a.2.2).bind λb=>k b.1
def M.yR code:=M.L9 code some
def C.yR:=fTa S.yR (λx=>M.L9 x.1.1) [fe C.Ky,fe C.Ed]
abbrev M.Qo(b:Int)(k:Bool->Option R):=cond (b==32) (k true) (k (b==9))
def M.Ee b:=M.Qo b some
def C.Ee:=fTa S.Ee (λx=>M.Qo x.1.1)
abbrev M.FT(n' low high:Int)(k:Bool->Option R):=cond (decide (n'>=low)) (k (decide (n'<=high))) (k false)
def M.eX n' low high:=M.FT n' low high some
def C.eX:=fTa S.eX (λx=>M.FT x.1.1 x.1.2.1 x.1.2.2.1)
abbrev M.TI(s':aC)(at':Int)(k:Int->Option R):=(M.eX at' 0 (i64.wrap ((↑s'.length:Int) - 1))).bind λb=>cond (!b) (k (-1)) ((idx s' at').bind λa=>k (i64.wrap (↑a.toNat:Int)))
def M.iT s' at':=M.TI s' at' some
def C.iT:=fTa S.iT (λx=>M.TI x.1.1 x.1.2.1) [fe C.eX]
def C.strings_IndexByte:S.strings_IndexByte.ok X0 λx=>M.strings_IndexByte x.1.1 x.1.2.1:=eP.adY (p:=Prim.strings_IndexByte)
abbrev M.Qp(b:Int)(k:Bool->Option R):=cond (decide (b>=48)) (k (decide (b<=57))) (k false)
def M.tN b:=M.Qp b some
def C.tN:=fTa S.tN (λx=>M.Qp x.1.1)
def M.Gg(s':aC)(s:Int)(kn:Int->Option R)(ke:Int->Option R):Option R:=match s with
 |at'=>(M.iT s' at').bind λa=>(M.tN a).bind λb=>bif b then(kn (i64.wrap (at'+1))) else ke at'
def M.UW s' s:=M.Gg s' s (λs=>some (Sum.inl s)) λt=>some (Sum.inr t)
def M.JR s' s:=fH (M.UW s') s
def F.JR:LE X0 154:=le 1 (Ik [dA 0 pS,dA 1 pI] []) (λx=>x.1.2.1) (λx s=>((x.1.1,s,()),())) (λx=> .leaf (Int) (λt=>(Ex.exit 0,⟨[(0,qw x.1.1),(1,iE t),(8,oC false)],[]⟩))) (λx=>M.Gg x.1.1) [fe C.iT,fe C.tN] [] (by rintro _ _ _ _ _<;>simp only[M.Gg,nb]<;>rfl)
abbrev M.Mc(s':aC)(at':Int)(k:Int->Option R):=(M.JR s' at').bind λa=>k a
def M.jr s' at':=M.Mc s' at' some
def C.jr:=fTa S.jr (λx=>M.Mc x.1.1 x.1.2.1) [] [F.JR]
abbrev M.Hg(s':aC)(ace:Int)(k:Int->Option R):=(M.iT s' (i64.wrap (ace+1))).bind λd=>cond (d==43) ((M.jr s' (i64.wrap (i64.wrap (ace+1)+1))).bind λc=>cond (decide (c>i64.wrap (i64.wrap (ace+1)+1))) (k c) (k ace)) (cond (d==45) ((M.jr s' (i64.wrap (i64.wrap (ace+1)+1))).bind λb=>cond (decide (b>i64.wrap (i64.wrap (ace+1)+1))) (k b) (k ace)) ((M.jr s' (i64.wrap (ace+1))).bind λa=>cond (decide (a>i64.wrap (ace+1))) (k a) (k ace)))
def M.TJ(s':aC)(at':Int)(k:Int->Option R):=(M.eX at' 0 (i64.wrap ((↑s'.length:Int) - 1))).bind λe=>cond (!e) (k (-1)) ((M.jr s' at').bind λa=>(M.iT s' a).bind λf=>cond (f==46) ((M.jr s' (i64.wrap (a+1))).bind λb=>cond (i64.wrap (i64.wrap (a - at')+i64.wrap (i64.wrap (b - a) - 1))==0) (k (-1)) ((M.iT s' b).bind λd=>cond (d==101) (M.Hg s' b k) (cond (d==69) (M.Hg s' b k) (k b)))) (cond (i64.wrap (a - at')==0) (k (-1)) ((M.iT s' a).bind λc=>cond (c==101) (M.Hg s' a k) (cond (c==69) (M.Hg s' a k) (k a)))))
def M.yS s' at':=M.TJ s' at' some
def C.yS:S.yS.ok X0 λx=>M.yS x.1.1 x.1.2.1:=fnS (λx=>M.TJ x.1.1 x.1.2.1) [fe C.eX,fe C.jr,fe C.iT] [] (by intros;unfold M.TJ M.Hg;exact zbK)
def M.xk(s':aC)(quote s:Int)(kn:Int->Option R)(ke:(Int)⊕(Int)->Option R):Option R:=match s with
 |i=>bif decide (i<(↑s'.length:Int)) then((idx s' i).bind λc=>bif(↑c.toNat:Int) !=10 then((idx s' i).bind λd=>bif i64.wrap (↑d.toNat:Int)==quote then(ke (.inl (i64.wrap (i+1)))) else (idx s' i).bind λb=>bif(↑b.toNat:Int)==92 then((M.iT s' (i64.wrap (i+1))).bind λa=>bif a !=10 then(kn (i64.wrap (i64.wrap (i+1)+1))) else kn (i64.wrap (i+1))) else kn (i64.wrap (i+1))) else ke (.inr i)) else ke (.inr i)
def M.Ac s' quote s:=M.xk s' quote s (λs=>some (Sum.inl s)) λt=>some (Sum.inr t)
def M.wL s' quote s:=fH (M.Ac s' quote) s
def F.wL:LE X0 155:=le 4 (Ik [dA 0 pS,dA 2 pI,dA 7 pI] []) (λx=>x.1.2.2.1) (λx s=>((x.1.1,x.1.2.1,s,()),())) (λx=> .sum (.leaf (Int) (λt=>(Ex.ret,⟨[(6,iE t)],[]⟩))) (.leaf (Int) (λt=>(Ex.exit 0,⟨[(0,qw x.1.1),(2,iE x.1.2.1),(7,iE t),(24,oC false)],[]⟩)))) (λx=>M.xk x.1.1 x.1.2.1) [fe C.iT] [] (by rintro _ _ _ _ _<;>simp only[M.xk,nb]<;>rfl)
abbrev M.Md(s':aC)(at' quote:Int)(k:Int->Option R):=(M.iT s' at').bind λa=>cond (a !=quote) (k (-1)) ((M.wL s' quote (i64.wrap (at'+1))).bind λd=>jX d (λb=>k b) λc=>letE c λe=>k (-1))
def M.sS s' at' quote:=M.Md s' at' quote some
def C.sS:=fTa S.sS (λx=>M.Md x.1.1 x.1.2.1 x.1.2.2.1) [fe C.iT] [F.wL]
abbrev M.TK(s':aC)(at':Int)(k:Int->Option R):=(M.sS s' at' 34).bind λa=>k a
def M.BF s' at':=M.TK s' at' some
def C.BF:=fTa S.BF (λx=>M.TK x.1.1 x.1.2.1) [fe C.sS]
abbrev M.CO(kind:Int)(k:Bool->Option R):=cond (kind==3) (k true) (cond (kind==4) (k true) (cond (kind==5) (k true) (cond (kind==6) (k true) (cond (kind==8) (k true) (cond (kind==33) (k true) (cond (kind==35) (k true) (cond (kind==51) (k true) (cond (kind==52) (k true) (k false)))))))))
def M.jf kind:=M.CO kind some
def C.jf:=fTa S.jf (λx=>M.CO x.1.1)
abbrev M.TM(s':aC)(at':Int)(k:Int->Option R):=(M.sS s' at' 47).bind λa=>cond (a==i64.wrap (at'+2)) (k (-1)) (k a)
def M.BG s' at':=M.TM s' at' some
def C.BG:=fTa S.BG (λx=>M.TM x.1.1 x.1.2.1) [fe C.sS]
abbrev M.Oo(b:Int)(k:Bool->Option R):=cond (decide (b>=97)) (cond (decide (b<=122)) (k true) (cond (decide (b>=65)) (cond (decide (b<=90)) (k true) (k (b==95))) (k (b==95)))) (cond (decide (b>=65)) (cond (decide (b<=90)) (k true) (k (b==95))) (k (b==95)))
def M.mO b:=M.Oo b some
def C.mO:=fTa S.mO (λx=>M.Oo x.1.1)
abbrev M.JU(b:Int)(k:Bool->Option R):=(M.mO b).bind λa=>cond a (k true) ((M.tN b).bind λc=>k c)
def M.oQ b:=M.JU b some
def C.oQ:=fTa S.oQ (λx=>M.JU x.1.1) [fe C.mO,fe C.tN]
def M.EJ(s:(aC×Int×Bool)⊕(aC×Int))(kn:(aC×Int×Bool)⊕(aC×Int)->Option R)(ke:aC×Int->Option R):Option R:=match s with
 | .inl (s',at',v9)=>(M.iT s' at').bind λc=>((M.oQ c).bind λb=>bif b then(kn (.inr (s',i64.wrap (at'+1)))) else ke (s',at'))
 | .inr (s',at')=>(M.iT s' at').bind λa=>(M.oQ a).bind λd=>bif d then(kn (.inr (s',i64.wrap (at'+1)))) else ke (s',at')
def M.Qq s:=M.EJ s (λs=>some (Sum.inl s)) λt=>some (Sum.inr t)
def M.Oq s:=fH (M.Qq) s
def F.Oq:LE X0 112:=le 3 zbI (σ:=(aC×Int×Bool)⊕(aC×Int)) (λx=>(match x with| .inl x=> .inl ((x.1.1,x.1.2.1,x.1.2.2.1))| .inr x=> .inr ((x.1.1,x.1.2.1)))) (λx s=>(match s with| .inl s=> .inl (((s.1,s.2.1,s.2.2,()),()))| .inr s=> .inr (((s.1,s.2,()),())))) (λx=> .leaf (aC×Int) (λt=>(Ex.exit 0,⟨[(0,qw t.1),(1,iE t.2),(13,oC false)],[]⟩))) (λx=>M.EJ) [fe C.iT,fe C.oQ] [] (by rintro _ _ (⟨_,_,_⟩|⟨_,_⟩) _ _<;>unfold M.EJ<;>exact zbK) (hE:=by intro _ _ s _;rcases s with s|s<;>kernel_rfl)
abbrev M.Qr(s':aC)(at':Int)(k:Int->Option R):=(M.iT s' at').bind λa=>(M.mO a).bind λb=>cond (!b) (k (-1)) ((M.Oq (.inl (s',at',false))).bind λc=>k c.2)
def M.AU s' at':=M.Qr s' at' some
def C.AU:=fTa S.AU (λx=>M.Qr x.1.1 x.1.2.1) [fe C.iT,fe C.mO] [F.Oq]
def M.Ad(s':aC)(v5 s:Int)(kn:Int->Option R)(ke:(Unit)⊕(Int)->Option R):Option R:=match s with
 |v6=>bif decide (v6<v5) then((idx s' v6).bind λb=>(M.oQ (i64.wrap (↑b.toNat:Int))).bind λa=>bif !a then(ke (.inl ())) else kn (i64.wrap (v6+1))) else ke (.inr v6)
def M.Gi s' v5 s:=M.Ad s' v5 s (λs=>some (Sum.inl s)) λt=>some (Sum.inr t)
def M.JV s' v5 s:=fH (M.Gi s' v5) s
def F.JV:LE X0 113:=le 2 (Ik [dA 0 pS,dA 5 pI,dA 6 pI] []) (λx=>x.1.2.2.1) (λx s=>((x.1.1,x.1.2.1,s,()),())) (λx=> .sum (.leaf (Unit) (λt=>(Ex.ret,⟨[(2,oC false)],[]⟩))) (.leaf (Int) (λt=>(Ex.exit 0,⟨[(0,qw x.1.1),(5,iE x.1.2.1),(6,iE t),(7,oC false)],[]⟩)))) (λx=>M.Ad x.1.1 x.1.2.1) [fe C.oQ] [] (by rintro _ _ _ _ _<;>simp only[M.Ad,nb]<;>rfl)
abbrev M.Me(s':aC)(k:Bool->Option R):=(M.JV s' ((↑s'.length:Int)) 0).bind λd=>jX d (λf=>k false) λc=>letE c λg=>(M.eX ((↑s'.length:Int)) 1 12).bind λa=>cond a ((idx s' 0).bind λe=>(M.mO (i64.wrap (↑e.toNat:Int))).bind λb=>k b) (k false)
def M.qG s':=M.Me s' some
def C.qG:=fTa S.qG (λx=>M.Me x.1.1) [fe C.eX,fe C.mO] [F.JV]
def M.EK(s':ak)(v:aC)(v7 s:Int)(kn:Int->Option R)(ke:(Int)⊕(Int)->Option R):Option R:=match s with
 |v8=>bif decide (v8<v7) then((idx s' v8).bind λa=>(cStr a 0).bind λb=>bif v==b then(ke (.inl v8)) else kn (i64.wrap (v8+1))) else ke (.inr v8)
def M.JW s' v v7 s:=M.EK s' v v7 s (λs=>some (Sum.inl s)) λt=>some (Sum.inr t)
def M.Ot s' v v7 s:=fH (M.JW s' v v7) s
def F.Ot:LE X0 168:=le 2 (Ik [dA 0 (pL false 1),dA 1 pS,dA 7 pI,dA 8 pI] []) (λx=>x.1.va.1) (λx s=>((x.1.1,x.1.2.1,x.1.2.2.1,s,()),())) (λx=> .sum (.leaf (Int) (λt=>(Ex.ret,⟨[(4,iE t)],[]⟩))) (.leaf (Int) (λt=>(Ex.exit 0,⟨[(0,DC 1 x.1.1),(1,qw x.1.2.1),(7,iE x.1.2.2.1),(8,iE t),(9,oC false)],[]⟩)))) (λx=>M.EK x.1.1 x.1.2.1 x.1.2.2.1) [] [] (by rintro _ _ _ _ _<;>simp only[M.EK,nb]<;>rfl)
abbrev M.Qs(s':ak)(v:aC)(k:Int->Option R):=(M.Ot s' v ((↑s'.length:Int)) 0).bind λc=>jX c (λb=>k b) λa=>letE a λd=>k (-1)
def M.slices_Index s' v:=M.Qs s' v some
def C.slices_Index:=fTa S.slices_Index (λx=>M.Qs x.1.1 x.1.2.1) [] [F.Ot]
abbrev M.MB(s':aC)(k:Int->Option R):=(M.slices_Index (List.map (λx=>[x]) H8) s').bind λa=>cond (decide (a<0)) (k 0) (k (i64.wrap (10+a)))
def M.qH s':=M.MB s' some
def C.qH:=fTa S.qH (λx=>M.MB x.1.1) [fe C.slices_Index]
abbrev M.EL(s':ak)(v:aC)(k:Bool->Option R):=(M.slices_Index s' v).bind λa=>k (decide (a>=0))
def M.slices_Contains(s':ak)(v:aC):Option (Bool):=M.EL s' v some
def C.slices_Contains:=fTa S.slices_Contains (λx=>M.EL x.1.1 x.1.2.1) [fe C.slices_Index]
abbrev M.MC(s':aC)(k:Bool->Option R):=(M.slices_Contains (List.map (λx=>[x]) O1) s').bind λa=>k a
def M.mF s':=M.MC s' some
def C.mF:=fTa S.mF (λx=>M.MC x.1.1) [fe C.slices_Contains]
abbrev M.MF(s':aC)(at' end':Int)(k:Int×aC×Int->Option R):=(cut s' at' end').bind λa=>(M.qH a).bind λe=>cond (e !=0) ((M.qH a).bind λd=>k (d,a,at')) ((M.mF a).bind λb=>cond b (k (8,a,at')) ((M.iT s' end').bind λc=>cond (c==40) (k (7,a,at')) (k (6,a,at'))))
def M.wo s' at' end':=M.MF s' at' end' some
def C.wo:=fTa S.wo (λx=>M.MF x.1.1 x.1.2.1 x.1.2.2.1) [fe C.qH,fe C.mF,fe C.iT]
abbrev M.qg(s' aft:aC)(k:Bool->Option R):=cond (decide ((↑s'.length:Int)>=(↑aft.length:Int))) ((cut s' 0 (↑aft.length:Int)).bind λa=>k (a==aft)) (k false)
def M.jA s' aft:=M.qg s' aft some
def C.jA:=fTa S.jA (λx=>M.qg x.1.1 x.1.2.1)
abbrev M.Gj(s' aft:aC)(k:Bool->Option R):=(M.jA s' aft).bind λa=>k a
def M.strings_HasPrefix s' aft:=M.Gj s' aft some
def C.strings_HasPrefix:=fTa S.strings_HasPrefix (λx=>M.Gj x.1.1 x.1.2.1) [fe C.jA]
def M.Qu(s':aC)(at':Int)(v16 azs v162 azt v164 azu azv v167 v168 azw apT apU apV apW apX apY apZ ap0 ap1 ap2 ap3 ap4 ap5 ap6 ap7 ap8 ap9 aqa aqb aqc aqd aqe aqf aqg aqh aqi aqj aqk aql:aC)(s:Int×Int×Int)(kn:Int×Int×Int->Option R)(ke:Int×Int×Int->Option R):Option R:=match s with
 |(kind,most,v17)=>bif decide (v17<39) then(bif decide (0<=v17) && decide (v17<39) then((cStr [D.str v16,D.str azs,D.str v162,D.str azt,D.str v164,D.str azu,D.str azv,D.str v167,D.str v168,D.str azw,D.str apT,D.str apU,D.str apV,D.str apW,D.str apX,D.str apY,D.str apZ,D.str ap0,D.str ap1,D.str ap2,D.str ap3,D.str ap4,D.str ap5,D.str ap6,D.str ap7,D.str ap8,D.str ap9,D.str aqa,D.str aqb,D.str aqc,D.str aqd,D.str aqe,D.str aqf,D.str aqg,D.str aqh,D.str aqi,D.str aqj,D.str aqk,D.str aql] v17.toNat).bind λa=>bif decide ((↑a.length:Int)>most) then((cut s' at' (↑s'.length:Int)).bind λc=>(M.strings_HasPrefix c a).bind λb=>bif b then(kn (i64.wrap (30+v17),(↑a.length:Int),i64.wrap (v17+1))) else kn (kind,most,i64.wrap (v17+1))) else kn (kind,most,i64.wrap (v17+1))) else none) else ke (kind,most,v17)
def M.aas s' at' v16 azs v162 azt v164 azu azv v167 v168 azw apT apU apV apW apX apY apZ ap0 ap1 ap2 ap3 ap4 ap5 ap6 ap7 ap8 ap9 aqa aqb aqc aqd aqe aqf aqg aqh aqi aqj aqk aql s:=M.Qu s' at' v16 azs v162 azt v164 azu azv v167 v168 azw apT apU apV apW apX apY apZ ap0 ap1 ap2 ap3 ap4 ap5 ap6 ap7 ap8 ap9 aqa aqb aqc aqd aqe aqf aqg aqh aqi aqj aqk aql s (λs=>some (Sum.inl s)) λt=>some (Sum.inr t)
def M.Vp s' at' v16 azs v162 azt v164 azu azv v167 v168 azw apT apU apV apW apX apY apZ ap0 ap1 ap2 ap3 ap4 ap5 ap6 ap7 ap8 ap9 aqa aqb aqc aqd aqe aqf aqg aqh aqi aqj aqk aql s:=fH (M.aas s' at' v16 azs v162 azt v164 azu azv v167 v168 azw apT apU apV apW apX apY apZ ap0 ap1 ap2 ap3 ap4 ap5 ap6 ap7 ap8 ap9 aqa aqb aqc aqd aqe aqf aqg aqh aqi aqj aqk aql) s
def F.Vp:LE X0 115:=le 5 (Ik [dA 0 pS,dA 1 pI,dA 6 pI,dA 7 pI,dA 16 (qm [pS,pS,pS,pS,pS,pS,pS,pS,pS,pS,pS,pS,pS,pS,pS,pS,pS,pS,pS,pS,pS,pS,pS,pS,pS,pS,pS,pS,pS,pS,pS,pS,pS,pS,pS,pS,pS,pS,pS]),dA 17 pI] []) (λx=>(x.1.2.2.1,x.1.va.1,x.1.va.2.2.1)) (λx s=>((x.1.1,x.1.2.1,s.1,s.2.1,(x.1.va.2.1.1,x.1.va.2.1.2.1,x.1.va.2.1.2.2.1,x.1.va.2.1.va.1,x.1.va.2.1.va.2.1,x.1.va.2.1.va.2.2.1,x.1.va.2.1.va.va.1,x.1.va.2.1.va.va.2.1,x.1.va.2.1.wc.1,x.1.va.2.1.wc.2.1,x.1.va.2.1.wc.2.2.1,x.1.va.2.1.wc.va.1,x.1.va.2.1.wc.va.2.1,x.1.va.2.1.wc.va.2.2.1,x.1.va.2.1.wc.va.va.1,x.1.va.2.1.wc.va.va.2.1,x.1.va.2.1.wc.wc.1,x.1.va.2.1.wc.wc.2.1,x.1.va.2.1.wc.wc.2.2.1,x.1.va.2.1.wc.wc.va.1,x.1.va.2.1.wc.wc.va.2.1,x.1.va.2.1.wc.wc.va.2.2.1,x.1.va.2.1.wc.wc.va.va.1,x.1.va.2.1.wc.wc.va.va.2.1,x.1.va.2.1.wc.wc.wc.1,x.1.va.2.1.wc.wc.wc.2.1,x.1.va.2.1.wc.wc.wc.2.2.1,x.1.va.2.1.wc.wc.wc.va.1,x.1.va.2.1.wc.wc.wc.va.2.1,x.1.va.2.1.wc.wc.wc.va.2.2.1,x.1.va.2.1.wc.wc.wc.va.va.1,x.1.va.2.1.wc.wc.wc.va.va.2.1,x.1.va.2.1.wc.wc.wc.wc.1,x.1.va.2.1.wc.wc.wc.wc.2.1,x.1.va.2.1.wc.wc.wc.wc.2.2.1,x.1.va.2.1.wc.wc.wc.wc.va.1,x.1.va.2.1.wc.wc.wc.wc.va.2.1,x.1.va.2.1.wc.wc.wc.wc.va.2.2.1,x.1.va.2.1.wc.wc.wc.wc.va.va.1,()),s.2.2,()),())) (λx=> .leaf (Int×Int×Int) (λt=>(Ex.exit 0,⟨[(0,qw x.1.1),(1,iE x.1.2.1),(6,iE t.1),(7,iE t.2.1),(16,V.agg [qw x.1.va.2.1.1,qw x.1.va.2.1.2.1,qw x.1.va.2.1.2.2.1,qw x.1.va.2.1.va.1,qw x.1.va.2.1.va.2.1,qw x.1.va.2.1.va.2.2.1,qw x.1.va.2.1.va.va.1,qw x.1.va.2.1.va.va.2.1,qw x.1.va.2.1.wc.1,qw x.1.va.2.1.wc.2.1,qw x.1.va.2.1.wc.2.2.1,qw x.1.va.2.1.wc.va.1,qw x.1.va.2.1.wc.va.2.1,qw x.1.va.2.1.wc.va.2.2.1,qw x.1.va.2.1.wc.va.va.1,qw x.1.va.2.1.wc.va.va.2.1,qw x.1.va.2.1.wc.wc.1,qw x.1.va.2.1.wc.wc.2.1,qw x.1.va.2.1.wc.wc.2.2.1,qw x.1.va.2.1.wc.wc.va.1,qw x.1.va.2.1.wc.wc.va.2.1,qw x.1.va.2.1.wc.wc.va.2.2.1,qw x.1.va.2.1.wc.wc.va.va.1,qw x.1.va.2.1.wc.wc.va.va.2.1,qw x.1.va.2.1.wc.wc.wc.1,qw x.1.va.2.1.wc.wc.wc.2.1,qw x.1.va.2.1.wc.wc.wc.2.2.1,qw x.1.va.2.1.wc.wc.wc.va.1,qw x.1.va.2.1.wc.wc.wc.va.2.1,qw x.1.va.2.1.wc.wc.wc.va.2.2.1,qw x.1.va.2.1.wc.wc.wc.va.va.1,qw x.1.va.2.1.wc.wc.wc.va.va.2.1,qw x.1.va.2.1.wc.wc.wc.wc.1,qw x.1.va.2.1.wc.wc.wc.wc.2.1,qw x.1.va.2.1.wc.wc.wc.wc.2.2.1,qw x.1.va.2.1.wc.wc.wc.wc.va.1,qw x.1.va.2.1.wc.wc.wc.wc.va.2.1,qw x.1.va.2.1.wc.wc.wc.wc.va.2.2.1,qw x.1.va.2.1.wc.wc.wc.wc.va.va.1]),(17,iE t.2.2),(18,oC false)],[]⟩))) (λx=>M.Qu x.1.1 x.1.2.1 x.1.va.2.1.1 x.1.va.2.1.2.1 x.1.va.2.1.2.2.1 x.1.va.2.1.va.1 x.1.va.2.1.va.2.1 x.1.va.2.1.va.2.2.1 x.1.va.2.1.va.va.1 x.1.va.2.1.va.va.2.1 x.1.va.2.1.wc.1 x.1.va.2.1.wc.2.1 x.1.va.2.1.wc.2.2.1 x.1.va.2.1.wc.va.1 x.1.va.2.1.wc.va.2.1 x.1.va.2.1.wc.va.2.2.1 x.1.va.2.1.wc.va.va.1 x.1.va.2.1.wc.va.va.2.1 x.1.va.2.1.wc.wc.1 x.1.va.2.1.wc.wc.2.1 x.1.va.2.1.wc.wc.2.2.1 x.1.va.2.1.wc.wc.va.1 x.1.va.2.1.wc.wc.va.2.1 x.1.va.2.1.wc.wc.va.2.2.1 x.1.va.2.1.wc.wc.va.va.1 x.1.va.2.1.wc.wc.va.va.2.1 x.1.va.2.1.wc.wc.wc.1 x.1.va.2.1.wc.wc.wc.2.1 x.1.va.2.1.wc.wc.wc.2.2.1 x.1.va.2.1.wc.wc.wc.va.1 x.1.va.2.1.wc.wc.wc.va.2.1 x.1.va.2.1.wc.wc.wc.va.2.2.1 x.1.va.2.1.wc.wc.wc.va.va.1 x.1.va.2.1.wc.wc.wc.va.va.2.1 x.1.va.2.1.wc.wc.wc.wc.1 x.1.va.2.1.wc.wc.wc.wc.2.1 x.1.va.2.1.wc.wc.wc.wc.2.2.1 x.1.va.2.1.wc.wc.wc.wc.va.1 x.1.va.2.1.wc.wc.wc.wc.va.2.1 x.1.va.2.1.wc.wc.wc.wc.va.2.2.1 x.1.va.2.1.wc.wc.wc.wc.va.va.1) [fe C.strings_HasPrefix] [] (by rintro _ _ ⟨_,_,_⟩ _ _<;>simp only[M.Qu,nb]<;>rfl)
abbrev M.WU(s':aC)(at':Int)(k:Int×Int->Option R):=(M.eX at' 0 (i64.wrap ((↑s'.length:Int) - 1))).bind λb=>cond (!b) (k (0,0)) ((M.Vp s' at' [123] [125] [40] [41] [91] [93] [44] [59] [43,61] [45,61] [42,61] [47,61] [37,61] [94,61] [124,124] [38,38] [33,126] [61,61] [60,61] [62,61] [33,61] [43,43] [45,45] [62,62] [61] [43] [45] [42] [47] [37] [94] [33] [62] [60] [124] [63] [58] [126] [36] (0,0,0)).bind λa=>k (a.1,a.2.1))
def M.LD s' at':=M.WU s' at' some
def C.LD:=fTa S.LD (λx=>M.WU x.1.1 x.1.2.1) [fe C.eX] [F.Vp]
abbrev M.Ou(alD:UInt8)(s':aC)(at':Int)(k:Int×aC×Int->Option R):=(M.mO (i64.wrap (↑alD.toNat:Int))).bind λd=>cond d ((M.AU s' at').bind λc=>(cut s' at' c).bind λg=>(M.qG g).bind λe=>cond e ((M.wo s' at' c).bind λb=>k (b)) (k (0,[],0))) ((M.LD s' at').bind λa=>cond (a.1==0) (k (0,[],0)) (cond (decide (i64.wrap (at'+a.2)<0)) (k (0,[],0)) ((cut s' at' (i64.wrap (at'+a.2))).bind λf=>k (a.1,f,at'))))
def M.Qv(s':aC)(at' before:Int)(k:Int×aC×Int->Option R):=(idx s' at').bind λa=>cond (i64.wrap (↑a.toNat:Int)==10) (cond (decide (i64.wrap (at'+1)<0)) (k (0,[],0)) ((cut s' at' (i64.wrap (at'+1))).bind λo=>k (1,o,at'))) (cond (i64.wrap (↑a.toNat:Int)==35) ((cut s' at' (↑s'.length:Int)).bind λn=>(M.strings_IndexByte n 10).bind λb=>cond (decide (b>=0)) (cond (decide (i64.wrap (at'+b)<0)) (k (0,[],0)) ((cut s' at' (i64.wrap (at'+b))).bind λq=>k (2,q,at'))) ((cut s' at' (↑s'.length:Int)).bind λj=>k (2,j,at'))) ((M.tN (i64.wrap (↑a.toNat:Int))).bind λm=>cond m ((M.yS s' at').bind λf=>cond (decide (f<0)) (k (0,[],0)) ((cut s' at' f).bind λp=>k (3,p,at'))) (cond (i64.wrap (↑a.toNat:Int)==46) ((M.yS s' at').bind λe=>cond (decide (e<0)) (k (0,[],0)) ((cut s' at' e).bind λh=>k (3,h,at'))) (cond (i64.wrap (↑a.toNat:Int)==34) ((M.BF s' at').bind λc=>cond (decide (c<0)) (k (0,[],0)) ((cut s' at' c).bind λg=>k (4,g,at'))) (cond (i64.wrap (↑a.toNat:Int)==47) ((M.jf before).bind λi=>cond (!i) ((M.BG s' at').bind λd=>cond (decide (d<0)) (k (0,[],0)) ((cut s' at' d).bind λl=>k (5,l,at'))) (M.Ou a s' at' k)) (M.Ou a s' at' k))))))
def M.AV s' at' before:=M.Qv s' at' before some
def C.AV:S.AV.ok X0 λx=>M.AV x.1.1 x.1.2.1 x.1.2.2.1:=fnS (λx=>M.Qv x.1.1 x.1.2.1 x.1.2.2.1) [fe C.strings_IndexByte,fe C.tN,fe C.yS,fe C.BF,fe C.jf,fe C.BG,fe C.mO,fe C.AU,fe C.qG,fe C.wo,fe C.LD] [] (by intros;unfold M.Qv M.Ou;exact zbK)
abbrev M.CP(s':aC)(at' before:Int)(ke:(Int)⊕(Int×Int×ak)->Option R)(pX:ak)(kn:Int×Int×ak->Option R):=(M.AV s' at' before).bind λa=>cond (a.1==0) (ke (.inl at')) (cond (((pX.length+[[D.int .i64 a.1,D.str a.2.1,D.int .i64 a.2.2]].length) * 32).ble 140737488355328) (cond ((pX.length+[[D.int .i64 a.1,D.str a.2.1,D.int .i64 a.2.2]].length).ble 140737488355328) (kn (i64.wrap (at'+(↑a.2.1.length:Int)),a.1,pX++[[D.int .i64 a.1,D.str a.2.1,D.int .i64 a.2.2]])) none) none)
def M.EM(s':aC)(x' oO:Int)(s:Int×Int×ak)(kn:Int×Int×ak->Option R)(ke:(Int)⊕(Int×Int×ak)->Option R):Option R:=match s with
 |(at',before,pX)=>bif decide (at'<(↑s'.length:Int)) then((idx s' at').bind λc=>(M.Ee (i64.wrap (↑c.toNat:Int))).bind λd=>bif d then(kn (i64.wrap (at'+1),before,pX)) else (idx s' at').bind λb=>bif(↑b.toNat:Int)==92 then((M.iT s' (i64.wrap (at'+1))).bind λa=>bif a==10 then(kn (i64.wrap (at'+2),before,pX)) else M.CP s' at' before ke pX kn) else M.CP s' at' before ke pX kn) else ke (.inr (at',before,pX))
def M.JX s' x' oO s:=M.EM s' x' oO s (λs=>some (Sum.inl s)) λt=>some (Sum.inr t)
def M.qX s' x' oO s:=fH (M.JX s' x' oO) s
def F.qX:LE X0 30:=le 2 (Ik [dA 0 pS,dA 1 pI,dA 2 pI,dA 7 (pP 300000 0),dA 8 (pO 300001 0)] [dA 300000 (cB 27 [pI,pI]),dA 300001 (cA false true 0 3)]) (λx=>(x.1.2.1,x.1.2.2.1,x.2.2.1)) (λx s=>((x.1.1,s.1,s.2.1,(),(),()),((x.2.1.1,x.2.1.2.1,()),s.2.2,()))) (λx=> .sum (.leaf (Int) (λt=>(Ex.ret,⟨[(6,V.nil 3),(7,V.ptr 300000 0)],[(300000,Cell.box 27 [iE 2,iE t])]⟩))) (.leaf (Int×Int×ak) (λt=>(Ex.exit 0,⟨[(0,qw x.1.1),(1,iE t.1),(2,iE t.2.1),(7,V.ptr 300000 0),(8,V.own 300001 0),(14,oC false)],[(300000,Cell.box 27 [iE x.2.1.1,iE x.2.1.2.1]),(300001,Cell.arr false true 0 3 t.2.2)]⟩)))) (λx=>M.EM x.1.1 x.2.1.1 x.2.1.2.1) [fe C.Ee,fe C.iT,fe C.AV] [] (by rintro _ _ ⟨_,_,_⟩ _ _<;>simp only[M.EM,M.CP,nb]<;>rfl)
abbrev M.Qw(s':aC)(at' before:Int)(k:ak×Int×Int->Option R):=(M.qX s' 0 0 (at',before,[])).bind λb=>jX b (λd=>k ([],2,d)) λc=>letE c λa=>cond (aj a.2.2) (k (a.2.2,0,0)) none
def M.Io s' at' before:=M.Qw s' at' before some
def C.Io:=fTa S.Io (λx=>M.Qw x.1.1 x.1.2.1 x.1.2.2.1) [] [F.qX]
abbrev M.YW(s':aC)(k:ak×Int×Int->Option R):=cond (decide ((↑s'.length:Int)>3000)) (k ([],1,0)) ((M.Io s' 0 0).bind λa=>cond (aj a.1) (k (a)) none)
def M.Uj s':=M.YW s' some
def C.Uj:=fTa S.Uj (λx=>M.YW x.1.1) [fe C.Io]
def C.strings_Contains:S.strings_Contains.ok X0 λx=>M.strings_Contains x.1.1 x.1.2.1:=eP.adY (p:=Prim.strings_Contains)
abbrev M.TN(s':aC)(k:Bool->Option R):=(M.qG s').bind λc=>cond c ((M.qH s').bind λa=>cond (a==0) ((M.mF s').bind λb=>k !b) (k false)) (k false)
def M.lD s':=M.TN s' some
def C.lD:=fTa S.lD (λx=>M.TN x.1.1) [fe C.qG,fe C.qH,fe C.mF]
abbrev M.EN(kind:Int)(k:Bool->Option R):=(M.eX kind 10 26).bind λa=>k a
def M.um kind:=M.EN kind some
def C.um:=fTa S.um (λx=>M.EN x.1.1) [fe C.eX]
abbrev M.JY(kind:Int)(k:Bool->Option R):=(M.eX kind 30 68).bind λa=>k a
def M.zN kind:=M.JY kind some
def C.zN:=fTa S.zN (λx=>M.JY x.1.1) [fe C.eX]
abbrev M.Qx(kind:Int)(k:aC->Option R):=cond (kind==1) (k [10]) ((M.um kind).bind λa=>cond a (cond (decide (0<=i64.wrap (kind - 10)) && decide (i64.wrap (kind - 10)<17)) ((cStr H8 (0+(i64.wrap (kind - 10)).toNat * 1)).bind λd=>k d) none) ((M.zN kind).bind λb=>cond b (cond (decide (0<=i64.wrap (kind - 30)) && decide (i64.wrap (kind - 30)<39)) ((cStr VO (0+(i64.wrap (kind - 30)).toNat * 1)).bind λc=>k c) none) (k [])))
def M.Ef kind:=M.Qx kind some
def C.Ef:=fTa S.Ef (λx=>M.Qx x.1.1) [fe C.um,fe C.zN]
abbrev M.Qy(t':Int)(Du:aC)(Nz:Int)(k:Bool->Option R):=cond (Du==[]) (k false) (cond (t'==2) ((idx Du 0).bind λg=>cond ((↑g.toNat:Int)==35) ((M.strings_Contains Du [10]).bind λc=>k !c) (k false)) (cond (t'==3) ((M.yS Du 0).bind λi=>k (i==(↑Du.length:Int))) (cond (t'==4) ((M.BF Du 0).bind λa=>k (a==(↑Du.length:Int))) (cond (t'==5) ((M.BG Du 0).bind λb=>k (b==(↑Du.length:Int))) (cond (t'==6) ((M.lD Du).bind λh=>k h) (cond (t'==7) ((M.lD Du).bind λe=>k e) (cond (t'==8) ((M.mF Du).bind λd=>k d) ((M.Ef t').bind λf=>k (Du==f)))))))))
def M.ru t' Du Nz:=M.Qy t' Du Nz some
def C.ru:=fTa S.ru (λx=>M.Qy x.1.1.1 x.1.1.2.1 x.1.1.2.2.1) [fe C.strings_Contains,fe C.yS,fe C.BF,fe C.BG,fe C.lD,fe C.mF,fe C.Ef]
abbrev M.jY(Hl before:Int)(ke:(Unit)⊕(Int×Int)->Option R)(kn:Int×Int->Option R)(v12:Int):=cond (Hl==5) ((M.jf before).bind λc=>cond c (ke (.inl ())) (cond (Hl==58) ((M.jf before).bind λe=>cond (!e) (ke (.inl ())) (kn (Hl,i64.wrap (v12+1)))) (cond (Hl==41) ((M.jf before).bind λa=>cond (!a) (ke (.inl ())) (kn (Hl,i64.wrap (v12+1)))) (kn (Hl,i64.wrap (v12+1)))))) (cond (Hl==58) ((M.jf before).bind λb=>cond (!b) (ke (.inl ())) (kn (Hl,i64.wrap (v12+1)))) (cond (Hl==41) ((M.jf before).bind λd=>cond (!d) (ke (.inl ())) (kn (Hl,i64.wrap (v12+1)))) (kn (Hl,i64.wrap (v12+1)))))
def M.CQ(l v10:ak)(v11:Int)(s:Int×Int)(kn:Int×Int->Option R)(ke:(Unit)⊕(Int×Int)->Option R):Option R:=match s with
 |(before,v12)=>bif decide (v12<v11) then((idx v10 v12).bind λc=>(jq .i64 c 0).bind λa=>(cStr c 1).bind λd=>(jq .i64 c 2).bind λe=>bif decide (i64.wrap (v12+1)<(↑l.length:Int)) then((idx l (i64.wrap (v12+1))).bind λg=>(jq .i64 g 0).bind λb=>(M.ru a d e).bind λh=>bif !h then(ke (.inl ())) else bif a==7 then(bif b !=32 then(ke (.inl ())) else bif a==2 then(bif b !=1 then(bif b !=0 then(ke (.inl ())) else M.jY a before ke kn v12) else M.jY a before ke kn v12) else M.jY a before ke kn v12) else bif a==2 then(bif b !=1 then(bif b !=0 then(ke (.inl ())) else M.jY a before ke kn v12) else M.jY a before ke kn v12) else M.jY a before ke kn v12) else (M.ru a d e).bind λf=>bif !f then(ke (.inl ())) else bif a==7 then(ke (.inl ())) else bif a==2 then(M.jY a before ke kn v12) else M.jY a before ke kn v12) else ke (.inr (before,v12))
def M.CS l v10 v11 s:=M.CQ l v10 v11 s (λs=>some (Sum.inl s)) λt=>some (Sum.inr t)
def M.MG l v10 v11 s:=fH (M.CS l v10 v11) s
def F.MG:LE X0 66:=le 5 (Ik [dA 0 (pL false 3),dA 3 pI,dA 10 (pL false 3),dA 11 pI,dA 12 pI] []) (λx=>(x.1.2.1,x.1.va.2.1)) (λx s=>((x.1.1,s.1,x.1.2.2.1,x.1.va.1,s.2,()),())) (λx=> .sum (.leaf (Unit) (λt=>(Ex.ret,⟨[(2,oC false)],[]⟩))) (.leaf (Int×Int) (λt=>(Ex.exit 0,⟨[(0,DC 3 x.1.1),(3,iE t.1),(10,DC 3 x.1.2.2.1),(11,iE x.1.va.1),(12,iE t.2),(13,oC false)],[]⟩)))) (λx=>M.CQ x.1.1 x.1.2.2.1 x.1.va.1) [fe C.ru,fe C.jf] [] (by rintro _ _ ⟨_,_⟩ _ _<;>unfold M.CQ M.jY<;>exact zbK)
abbrev M.Ov(l:ak)(k:Bool->Option R):=cond (decide ((↑l.length:Int)>3000)) (k false) ((M.MG l l ((↑l.length:Int)) (0,0)).bind λb=>jX b (λc=>k false) λa=>letE a λd=>k true)
def M.BH l:=M.Ov l some
def C.BH:=fTa S.BH (λx=>M.Ov x.1.1) [] [F.MG]
abbrev M.Qz(kind:Int)(k:Bool->Option R):=cond (kind==32) (k true) (cond (kind==34) (k true) (k (kind==30)))
def M.zO kind:=M.Qz kind some
def C.zO:=fTa S.zO (λx=>M.Qz x.1.1)
abbrev M.QA(kind:Int)(k:Bool->Option R):=cond (kind==33) (k true) (cond (kind==35) (k true) (k (kind==31)))
def M.zQ kind:=M.QA kind some
def C.zQ:=fTa S.zQ (λx=>M.QA x.1.1)
def M.Ho(v6:ak)(v7:Int)(s:Int×Int)(kn:Int×Int->Option R)(ke:(Int)⊕(Int×Int)->Option R):Option R:=match s with
 |(open',v8)=>bif decide (v8<v7) then((idx v6 v8).bind λa=>(jq .i64 a 0).bind λb=>(cStr a 1).bind λf=>(jq .i64 a 2).bind λe=>(M.zO b).bind λd=>bif d then(bif decide (i64.wrap (open'+1)>40) then(ke (.inl v8)) else kn (i64.wrap (open'+1),i64.wrap (v8+1))) else (M.zQ b).bind λc=>bif c then(bif decide ((bif decide (i64.wrap (open' - 1)<0) then 0 else i64.wrap (open' - 1))>40) then(ke (.inl v8)) else kn (bif decide (i64.wrap (open' - 1)<0) then 0 else i64.wrap (open' - 1),i64.wrap (v8+1))) else bif decide (open'>40) then(ke (.inl v8)) else kn (open',i64.wrap (v8+1))) else ke (.inr (open',v8))
def M.Hq v6 v7 s:=M.Ho v6 v7 s (λs=>some (Sum.inl s)) λt=>some (Sum.inr t)
def M.QB v6 v7 s:=fH (M.Hq v6 v7) s
def F.QB:LE X0 67:=le 3 (Ik [dA 3 pI,dA 6 (pL false 3),dA 7 pI,dA 8 pI] []) (λx=>(x.1.1,x.1.va.1)) (λx s=>((s.1,x.1.2.1,x.1.2.2.1,s.2,()),())) (λx=> .sum (.leaf (Int) (λt=>(Ex.ret,⟨[(2,iE t)],[]⟩))) (.leaf (Int×Int) (λt=>(Ex.exit 0,⟨[(3,iE t.1),(6,DC 3 x.1.2.1),(7,iE x.1.2.2.1),(8,iE t.2),(9,oC false)],[]⟩)))) (λx=>M.Ho x.1.2.1 x.1.2.2.1) [fe C.zO,fe C.zQ] [] (by rintro _ _ ⟨_,_⟩ _ _<;>simp only[M.Ho,nb]<;>rfl)
abbrev M.TQ(l:ak)(k:Int->Option R):=(M.QB l ((↑l.length:Int)) (0,0)).bind λa=>jX a (λb=>k b) λc=>letE c λd=>k (-1)
def M.Ib l:=M.TQ l some
def C.Ib:=fTa S.Ib (λx=>M.TQ x.1.1) [] [F.QB]
abbrev M.QC(l:ak)(i:Int)(k:Int->Option R):=cond (decide (i<(↑l.length:Int))) ((idx l i).bind λa=>(jq .i64 a 2).bind λe=>k e) (cond ((↑l.length:Int)==0) (k 0) ((idx l (i64.wrap ((↑l.length:Int) - 1))).bind λf=>(jq .i64 f 2).bind λb=>(idx l (i64.wrap ((↑l.length:Int) - 1))).bind λd=>(cStr d 1).bind λc=>k (i64.wrap (b+(↑c.length:Int)))))
def M.pY l i:=M.QC l i some
def C.pY:=fTa S.pY (λx=>M.QC x.1.1 x.1.2.1)
abbrev M.Hr(l:ak)(k:Int×Int->Option R):=(M.BH l).bind λb=>cond (!b) (k (2,0)) ((M.Ib l).bind λa=>cond (decide (a>=0)) ((M.pY l a).bind λc=>k (4,c)) (k (0,0)))
def M.wu l:=M.Hr l some
def C.wu:=fTa S.wu (λx=>M.Hr x.1.1) [fe C.BH,fe C.Ib,fe C.pY]
abbrev M.IE(c:ak)(c1:Int)(c2:Bool)(c3:ak)(k:Int×ak×Int×Bool×ak->Option R):=cond (decide (c1>=(↑c.length:Int))) (cond (aj c3) (k (0,c,c1,c2,c3)) none) ((idx c c1).bind λa=>(jq .i64 a 0).bind λb=>cond (aj c3) (k (b,c,c1,c2,c3)) none)
def M.aA c c1 c2 c3:=M.IE c c1 c2 c3 some
def C.aA:=fTa S.aA (λx=>zbJ M.IE x.2.1)
def M.oJ(s:zav⊕zav)(kn:zav⊕zav->Option R)(ke:zav⊕zav->Option R):Option R:=match s with
 | .inl (v,v1,v2,v3)=>bif !v2 then(bif aj v3 then((M.aA v v1 v2 v3).bind λb=>bif b.1==1 then(kn (.inr (b.2.1,i64.wrap (b.2.2.1+1),b.2.2.2.1,b.2.2.2.2))) else bif b.1==2 then((idx b.2.1 b.2.2.1).bind λf=>(cStr f 1).bind λc=>oq b.2.2.2.2 [[D.str c]] 16 λza=>kn (.inr (b.2.1,i64.wrap (b.2.2.1+1),b.2.2.2.1,za))) else ke (.inl (b.2.1,b.2.2.1,b.2.2.2.1,b.2.2.2.2))) else none) else(ke (.inr (v,v1,v2,v3)))
 | .inr (v,v1,v2,x')=>bif !v2 then(bif aj x' then((M.aA v v1 v2 x').bind λa=>bif a.1==1 then(kn (.inr (a.2.1,i64.wrap (a.2.2.1+1),a.2.2.2.1,a.2.2.2.2))) else bif a.1==2 then((idx a.2.1 a.2.2.1).bind λd=>(cStr d 1).bind λe=>oq a.2.2.2.2 [[D.str e]] 16 λza=>kn (.inr (a.2.1,i64.wrap (a.2.2.1+1),a.2.2.2.1,za))) else ke (.inl (a.2.1,a.2.2.1,a.2.2.2.1,a.2.2.2.2))) else none) else ke (.inr (v,v1,v2,x'))
def M.lV s:=M.oJ s (λs=>some (Sum.inl s)) λt=>some (Sum.inr t)
def M.jL s:=fH (M.lV) s
def F.jL:LE X0 68:=le 1 zbq (σ:=zav⊕zav) (λx=>(match x with| .inl x=> .inl ((x.2.1.1,x.2.1.2.1,x.2.1.2.2.1,x.2.2.1))| .inr x=> .inr ((x.2.1.1,x.2.1.2.1,x.2.1.2.2.1,x.2.2.1)))) (λx s=>(match s with| .inl s=> .inl ((((),()),((s.1,s.2.1,s.2.2.1,(),()),s.va,())))| .inr s=> .inr ((((),()),((s.1,s.2.1,s.2.2.1,(),()),s.va,()))))) (λx=> .sum (.leaf zav (λt=>(Ex.ret,⟨[(0,V.ptr 100000 0),(11,oC false)],[(100000,zba t 300000),(300000,Cell.arr false true 0 1 t.va)]⟩))) (.leaf zav (λt=>(Ex.exit 0,⟨[(0,V.ptr 100000 0),(6,oC false)],[(100000,zba t 300000),(300000,Cell.arr false true 0 1 t.va)]⟩)))) (λx=>M.oJ) [fe C.aA] [] (by rintro _ _ (⟨_,_,_,_⟩|⟨_,_,_,_⟩) _ _<;>unfold M.oJ<;>exact zbK) (hE:=by intro _ _ s _;rcases s with s|s<;>kernel_rfl)
abbrev M.wM(c:ak)(c1:Int)(c2:Bool)(c3:ak)(k:ak×Int×Bool×ak->Option R):=(M.jL (.inl (c,c1,c2,c3))).bind λd=>jX d (λa=>cond (aj a.2.2.2) (k (a)) none) λe=>letE e λb=>cond (aj b.2.2.2) (k (b)) none
def M.aQ c c1 c2 c3:=M.wM c c1 c2 c3 some
def C.aQ:=fTa S.aQ (λx=>zbJ M.wM x.2.1) [] [F.jL]
def M.kE(s:zav⊕zav)(kn:zav⊕zav->Option R)(ke:ak×Int×Bool×ak->Option R):Option R:=match s with
 | .inl (v,v1,v2,v3)=>bif aj v3 then((M.aQ v v1 v2 v3).bind λa=>bif a.2.2.1 then(ke (a.1,a.2.1,a.2.2.1,a.2.2.2)) else bif aj a.2.2.2 then((M.aA a.1 a.2.1 a.2.2.1 a.2.2.2).bind λc=>bif c.1 !=37 then(ke (c.2.1,c.2.2.1,c.2.2.2.1,c.2.2.2.2)) else kn (.inr (c.2.1,i64.wrap (c.2.2.1+1),c.2.2.2.1,c.2.2.2.2))) else none) else none
 | .inr (v,v1,v2,x')=>bif aj x' then((M.aQ v v1 v2 x').bind λb=>bif b.2.2.1 then(ke (b.1,b.2.1,b.2.2.1,b.2.2.2)) else bif aj b.2.2.2 then((M.aA b.1 b.2.1 b.2.2.1 b.2.2.2).bind λd=>bif d.1 !=37 then(ke (d.2.1,d.2.2.1,d.2.2.2.1,d.2.2.2.2)) else kn (.inr (d.2.1,i64.wrap (d.2.2.1+1),d.2.2.2.1,d.2.2.2.2))) else none) else none
def M.mX s:=M.kE s (λs=>some (Sum.inl s)) λt=>some (Sum.inr t)
def M.lW s:=fH (M.mX) s
def F.lW:LE X0 32:=le 1 zbq (σ:=zav⊕zav) (λx=>(match x with| .inl x=> .inl ((x.2.1.1,x.2.1.2.1,x.2.1.2.2.1,x.2.2.1))| .inr x=> .inr ((x.2.1.1,x.2.1.2.1,x.2.1.2.2.1,x.2.2.1)))) (λx s=>(match s with| .inl s=> .inl ((((),()),((s.1,s.2.1,s.2.2.1,(),()),s.va,())))| .inr s=> .inr ((((),()),((s.1,s.2.1,s.2.2.1,(),()),s.va,()))))) (λx=> .leaf zav (λt=>(Ex.ret,⟨[(0,V.ptr 100000 0),(12,oC true)],[(100000,zba t 300000),(300000,Cell.arr false true 0 1 t.va)]⟩))) (λx=>M.kE) [fe C.aQ,fe C.aA] [] (by rintro _ _ (⟨_,_,_,_⟩|⟨_,_,_,_⟩) _ _<;>unfold M.kE<;>exact zbK) (hE:=by intro _ _ s _;rcases s with s|s<;>kernel_rfl)
abbrev M.sZ(c:ak)(c1:Int)(c2:Bool)(c3:ak)(k:ak×Int×Bool×ak->Option R):=(M.lW (.inl (c,c1,c2,c3))).bind λa=>cond (aj a.2.2.2) (k (a)) none
def M.bT c c1 c2 c3:=M.sZ c c1 c2 c3 some
def C.bT:=fTa S.bT (λx=>zbJ M.sZ x.2.1) [] [F.lW]
def M.rP(v11:Int)(v:ak)(v1:Int)(v2:Bool)(oO:ak)(s:Int×ak)(kn:Int×ak->Option R)(ke:Int×ak->Option R):Option R:=match s with
 |(v12,x')=>bif decide (v12<v11) then((idx oO v12).bind λd=>oO[v12.toNat]?.bind λa=>(cStr a 0).bind λb=>oq x' [[D.int .i64 34,D.int .i64 0,D.str b,D.str [],D.sl true 5 []]] 72 λc=>kn (i64.wrap (v12+1),c)) else ke (v12,x')
def M.xG v11 v v1 v2 oO s:=M.rP v11 v v1 v2 oO s (λs=>some (Sum.inl s)) λt=>some (Sum.inr t)
def M.zB v11 v v1 v2 oO s:=fH (M.xG v11 v v1 v2 oO) s
def F.zB:LE X0 33:=le 3 (Ik [dA 0 (pP 100000 0),dA 3 (pO 300000 0),dA 10 (pO 300001 0),dA 11 pI,dA 12 pI] [dA 100000 (cB 65 [pL false 3,pI,pB,pO 300001 0]),dA 300000 zbr,dA 300001 zbl]) (λx=>(x.1.va.2.1,x.2.2.1)) (λx s=>(((),(),(),x.1.va.1,s.1,()),((x.2.1.1,x.2.1.2.1,x.2.1.2.2.1,(),()),s.2,x.va.1,()))) (λx=> .leaf (Int×ak) (λt=>(Ex.exit 0,⟨[(0,V.ptr 100000 0),(3,V.own 300000 0),(10,V.own 300001 0),(11,iE x.1.va.1),(12,iE t.1),(13,oC false)],[(100000,zba x.2.1 300001),(300000,Cell.arr false false 0 5 t.2),(300001,Cell.arr false true 0 1 x.va.1)]⟩))) (λx=>M.rP x.1.va.1 x.2.1.1 x.2.1.2.1 x.2.1.2.2.1 x.va.1) [] [] (by rintro _ _ ⟨_,_⟩ _ _<;>unfold M.rP<;>exact zbK)
abbrev M.AY(c:ak)(c1:Int)(c2:Bool)(c3:ak)(k:Bool×ak×ak×Int×Bool×ak->Option R):=(M.zB ((↑c3.length:Int)) c c1 c2 c3 (0,[])).bind λa=>k (true,a.2,c,c1,c2,[])
def M.dU c c1 c2 c3:=M.AY c c1 c2 c3 some
def C.dU:=fTa S.dU (λx=>zbJ M.AY x.2.1) [] [F.zB]
abbrev M.uz(kind:Int)(c:ak)(c1:Int)(c2:Bool)(c3:ak)(k:Bool×ak×Int×Bool×ak->Option R):=cond c2 (cond (aj c3) (k (false,c,c1,true,c3)) none) (cond (aj c3) ((M.aA c c1 c2 c3).bind λa=>cond (a.1 !=kind) (cond (aj a.2.2.2.2) (k (false,a.2.1,a.2.2.1,true,a.2.2.2.2)) none) (cond (aj a.2.2.2.2) (k (true,a.2.1,i64.wrap (a.2.2.1+1),a.2.2.2)) none)) none)
def M.aO kind c c1 c2 c3:=M.uz kind c c1 c2 c3 some
def C.aO:=fTa S.aO (λx=>zbJ (M.uz x.1.2.1) x.2.1) [fe C.aA]
def M.fJ(v14:ak)(v15:Int)(v:ak)(v1:Int)(v2:Bool)(x':ak)(s:Int×Int)(kn:Int×Int->Option R)(ke:(Int×Int)⊕(Unit)⊕(Int×Int)->Option R):Option R:=match s with
 |(open',v16)=>bif decide (v16<v15) then((idx v14 v16).bind λa=>(jq .i64 a 0).bind λb=>(cStr a 1).bind λe=>(jq .i64 a 2).bind λf=>(M.zO b).bind λc=>bif c then(bif decide (i64.wrap (open'+1)<=0) then(ke (.inl (i64.wrap (open'+1),v16))) else kn (i64.wrap (open'+1),i64.wrap (v16+1))) else (M.zQ b).bind λd=>bif d then(bif decide (i64.wrap (open' - 1)<=0) then(ke (.inl (i64.wrap (open' - 1),v16))) else kn (i64.wrap (open' - 1),i64.wrap (v16+1))) else bif b==36 then(bif open'==1 then(ke (.inr (.inl ()))) else bif decide (open'<=0) then(ke (.inl (open',v16))) else kn (open',i64.wrap (v16+1))) else bif decide (open'<=0) then(ke (.inl (open',v16))) else kn (open',i64.wrap (v16+1))) else ke (.inr (.inr (open',v16)))
def M.cu v14 v15 v v1 v2 x' s:=M.fJ v14 v15 v v1 v2 x' s (λs=>some (Sum.inl s)) λt=>some (Sum.inr t)
def M.pq v14 v15 v v1 v2 x' s:=fH (M.cu v14 v15 v v1 v2 x') s
def F.pq:LE X0 222:=le 3 (Ik [dA 3 pI,dA 14 (pL false 3),dA 15 pI,dA 16 pI] [dA 100000 (cB 65 [pL false 3,pI,pB,pO 300000 0]),dA 300000 zbl]) (λx=>(x.1.1,x.1.va.1)) (λx s=>((s.1,x.1.2.1,x.1.2.2.1,s.2,()),((x.2.1.1,x.2.1.2.1,x.2.1.2.2.1,(),()),x.2.2.1,()))) (λx=> .sum (.leaf (Int×Int) (λt=>(Ex.exit 0,⟨[(3,iE t.1),(14,DC 3 x.1.2.1),(15,iE x.1.2.2.1),(16,iE t.2),(41,oC true)],[(100000,zba x.2.1 300000),(300000,Cell.arr false true 0 1 x.2.2.1)]⟩))) (.sum (.leaf (Unit) (λt=>(Ex.ret,⟨[(2,oC true)],[(100000,zba x.2.1 300000),(300000,Cell.arr false true 0 1 x.2.2.1)]⟩))) (.leaf (Int×Int) (λt=>(Ex.exit 0,⟨[(3,iE t.1),(14,DC 3 x.1.2.1),(15,iE x.1.2.2.1),(16,iE t.2),(17,oC false)],[(100000,zba x.2.1 300000),(300000,Cell.arr false true 0 1 x.2.2.1)]⟩))))) (λx=>M.fJ x.1.2.1 x.1.2.2.1 x.2.1.1 x.2.1.2.1 x.2.1.2.2.1 x.2.2.1) [fe C.zO,fe C.zQ] [] (by rintro _ _ ⟨_,_⟩ _ _<;>unfold M.fJ<;>exact zbK)
abbrev M.zC(c:ak)(c1:Int)(c2:Bool)(c3:ak)(k:Bool×ak×Int×Bool×ak->Option R):=(cut c c1 (↑c.length:Int)).bind λb=>(M.pq b ((↑b.length:Int)) c c1 c2 c3 (0,0)).bind λe=>jX e (λf=>cond (aj c3) (k (false,c,c1,c2,c3)) none) λd=>jX d (λg=>cond (aj c3) (k (true,c,c1,c2,c3)) none) λa=>letE a λh=>cond (aj c3) (k (false,c,c1,c2,c3)) none
def M.nC c c1 c2 c3:=M.zC c c1 c2 c3 some
def C.nC:=fTa S.nC (λx=>zbJ M.zC x.2.1) [] [F.pq]
def M.AZ(bJ:zaa)(x' oO:Bool)(s:ak×Int×Bool×ak×ak)(kn:ak×Int×Bool×ak×ak->Option R)(ke:zay⊕zaN⊕zay->Option R):Option R:=match s with
 |(v,v1,v2,pX,tZ)=>bif !v2 then(bif aj tZ then((bJ x' oO v v1 v2 tZ).bind λa=>oq pX [[D.int .i64 a.1,D.int .i64 a.2.1,D.str a.2.2.1,D.str a.2.2.2.1,D.sl false 5 (aB a.2.2.2.2.2.1)]] 72 λd=>bif a.2.2.2.2.2.2.2.2.2.1 then(ke (.inl (a.2.2.2.2.2.2.2.1,a.2.2.2.2.2.2.2.2.1,a.2.2.2.2.2.2.2.2.2.1,d,a.2.2.2.2.2.2.2.2.2.2))) else bif aj a.2.2.2.2.2.2.2.2.2.2 then((M.aA a.2.2.2.2.2.2.2.1 a.2.2.2.2.2.2.2.2.1 a.2.2.2.2.2.2.2.2.2.1 a.2.2.2.2.2.2.2.2.2.2).bind λb=>bif b.1 !=36 then(ke (.inl (b.2.1,b.2.2.1,b.2.2.2.1,d,b.2.2.2.2))) else bif(↑d.length:Int)==6 then(ke (.inr (.inl (b.2.1,b.2.2.1,d,b.2.2.2.2)))) else bif aj b.2.2.2.2 then((M.aQ b.2.1 (i64.wrap (b.2.2.1+1)) b.2.2.2.1 b.2.2.2.2).bind λc=>kn (c.1,c.2.1,c.2.2.1,d,c.2.2.2)) else none) else none) else none) else ke (.inr (.inr (v,v1,v2,pX,tZ)))
def M.IG bJ x' oO s:=M.AZ bJ x' oO s (λs=>some (Sum.inl s)) λt=>some (Sum.inr t)
def M.uP bJ x' oO s:=fH (M.IG bJ x' oO) s
def F.uP{bJ:zaa}(qJ:S.bP.ok X0 λx=>bJ x.1.2.1.1 x.1.2.1.2.1 x.2.1.1 x.2.1.2.1 x.2.1.2.2.1 x.2.1.va.1):LE X0 193:=le 2 (Ik [dA 0 (pP 100000 0),dA 3 (pP 300000 0),dA 5 (pO 300001 0)] [dA 100000 zbu,dA 300000 (cB 90 [pB,pB]),dA 300001 zbr,dA 300002 zbl]) (λx=>(x.2.1.1,x.2.1.2.1,x.2.1.2.2.1,x.va.1,x.va.2.1)) (λx s=>(((),(),(),()),((s.1,s.2.1,s.2.2.1,(),()),(x.2.2.1.1,x.2.2.1.2.1,()),s.va.1,s.va.2,()))) (λx=> .sum (.leaf zay (λt=>(Ex.exit 0,⟨[(0,V.ptr 100000 0),(3,V.ptr 300000 0),(5,V.own 300001 0),(27,oC true)],[(100000,zba t 300002),(300000,Cell.box 90 [oC x.2.2.1.1,oC x.2.2.1.2.1]),(300001,Cell.arr false false 0 5 t.va.1),(300002,Cell.arr false true 0 1 t.va.2)]⟩))) (.sum (.leaf zaN (λt=>(Ex.exit 0,⟨[(5,V.own 300000 0)],[(100000,Cell.box 65 [DC 3 t.1,iE t.2.1,oC true,V.own 300001 0]),(300000,Cell.arr false false 0 5 t.2.2.1),(300001,Cell.arr false true 0 1 t.va)]⟩))) (.leaf zay (λt=>(Ex.exit 0,⟨[(0,V.ptr 100000 0),(3,V.ptr 300000 0),(5,V.own 300001 0),(11,oC false)],[(100000,zba t 300002),(300000,Cell.box 90 [oC x.2.2.1.1,oC x.2.2.1.2.1]),(300001,Cell.arr false false 0 5 t.va.1),(300002,Cell.arr false true 0 1 t.va.2)]⟩))))) (λx=>M.AZ bJ x.2.2.1.1 x.2.2.1.2.1) [fe qJ,fe C.aA,fe C.aQ] [] (by rintro _ _ ⟨_,_,_,_,_⟩ _ _<;>unfold M.AZ<;>exact zbK)
def M.rQ(bJ:zaa)(r' oZ:Bool)(c:ak)(c1:Int)(c2:Bool)(c3:ak)(k:Bool×ak×ak×Int×Bool×ak->Option R):=(M.uP bJ r' oZ (c,c1,c2,[],c3)).bind λe=>jX e (λb=>cond (aj b.2.2.2.2) (k (true,b.2.2.2.1,b.1,b.2.1,b.2.2.1,b.2.2.2.2)) none) λg=>jX g (λd=>cond (aj d.2.2.2) (k (true,d.2.2.1,d.1,d.2.1,true,d.2.2.2)) none) λf=>letE f λa=>cond (aj a.2.2.2.2) (k (true,a.2.2.2.1,a.1,a.2.1,a.2.2.1,a.2.2.2.2)) none
def C.aat{bJ:zaa}(qJ:S.bP.ok X0 λx=>bJ x.1.2.1.1 x.1.2.1.2.1 x.2.1.1 x.2.1.2.1 x.2.1.2.2.1 x.2.1.va.1):S.iW.ok X0 λx=>M.rQ bJ x.1.2.1.1 x.1.2.1.2.1 x.2.1.1 x.2.1.2.1 x.2.1.2.2.1 x.2.1.va.1 some:=fnS (λx=>zbJ (M.rQ bJ x.1.2.1.1 x.1.2.1.2.1) x.2.1) [] [F.uP qJ] (by intros;unfold M.rQ;exact zbK)
abbrev M.Ae(WV:Int×ak×Int×Bool×ak)(nD:zan)(shut:Int)(k:Bool×ak×ak×Int×Bool×ak->Option R):=cond (aj WV.2.2.2.2) ((nD false false WV.2.1 WV.2.2.1 WV.2.2.2.1 WV.2.2.2.2).bind λa=>cond (aj a.2.2.2.2.2) ((M.aO shut a.2.2.1 a.2.2.2.1 a.2.2.2.2.1 a.2.2.2.2.2).bind λb=>cond (aj b.2.2.2.2) (k (false,aB a.2.1,b.2)) none) none) none
def M.uD(nD:zan)(shut:Int)(c:ak)(c1:Int)(c2:Bool)(c3:ak)(k:Bool×ak×ak×Int×Bool×ak->Option R):=cond (aj c3) ((M.aA c c1 c2 c3).bind λa=>cond (a.1==shut) (cond (shut==33) (cond (aj a.2.2.2.2) (k (true,[],a.2.1,i64.wrap (a.2.2.1+1),a.2.2.2)) none) (M.Ae a nD shut k)) (M.Ae a nD shut k)) none
def C.acf{nD:zan}(acg:S.iW.ok X0 λx=>nD x.1.2.1.1 x.1.2.1.2.1 x.2.1.1 x.2.1.2.1 x.2.1.2.2.1 x.2.1.va.1):S.jg.ok X0 λx=>M.uD nD x.1.2.1 x.2.1.1 x.2.1.2.1 x.2.1.2.2.1 x.2.1.va.1 some:=fnS (λx=>zbJ (M.uD nD x.1.2.1) x.2.1) [fe C.aA,fe acg,fe C.aO] [] (by intros;unfold M.uD M.Ae;exact zbK)
abbrev M.II(c:ak)(c1:Int)(c2:Bool)(c3:ak)(k:Int×Int×aC×aC×Bool×ak×Bool×ak×Int×Bool×ak->Option R):=cond (aj c3) (k (0,0,[],[],true,[],false,c,c1,true,c3)) none
def M.jB c c1 c2 c3:=M.II c c1 c2 c3 some
def C.jB:=fTa S.jB (λx=>zbJ M.II x.2.1)
abbrev M.IJ(c:ak)(c1:Int)(c2:Bool)(c3:ak)(k:aC×ak×Int×Bool×ak->Option R):=(idx c c1).bind λb=>(cStr b 1).bind λa=>cond (aj c3) (k (a,c,i64.wrap (c1+1),c2,c3)) none
def M.fE c c1 c2 c3:=M.IJ c c1 c2 c3 some
def C.fE:=fTa S.fE (λx=>zbJ M.IJ x.2.1)
abbrev M.iY(c:ak)(c1:Int)(c2:Bool)(c3:ak)(k:aC×ak×Int×Bool×ak->Option R):=cond c2 (cond (aj c3) (k ([],c,c1,true,c3)) none) (cond (aj c3) ((M.aA c c1 c2 c3).bind λa=>cond (a.1 !=6) (cond (aj a.2.2.2.2) (k ([],a.2.1,a.2.2.1,true,a.2.2.2.2)) none) (cond (aj a.2.2.2.2) ((M.fE a.2.1 a.2.2.1 a.2.2.2.1 a.2.2.2.2).bind λb=>cond (aj b.2.2.2.2) (k (b)) none) none)) none)
def M.bF c c1 c2 c3:=M.iY c c1 c2 c3 some
def C.bF:=fTa S.bF (λx=>zbJ M.iY x.2.1) [fe C.aA,fe C.fE]
abbrev M.mV(kind:Int)(k:Bool->Option R):=cond (kind==51) (k true) (k (kind==52))
def M.iw kind:=M.mV kind some
def C.iw:=fTa S.iw (λx=>M.mV x.1.1)
end
end Go.Proofs.YtgealgmioiepeaaGreatDoor
