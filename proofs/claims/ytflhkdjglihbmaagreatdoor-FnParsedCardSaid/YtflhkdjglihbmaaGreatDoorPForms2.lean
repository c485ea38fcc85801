import Derived.RangeFuncBox
import Derived.RangeFuncLeaves
import Derived.RangeFuncNested
import Derived.Shelf.Abstract
import Derived.Shelf.RegionOpen
import Derived.WalkKit
import Derived.OwnWalkIn
import Derived.TacticsInMore
import Derived.LoopNIn
import Derived.LoopIn
import Derived.Test.YtflhkdjglihbmaaGreatDoorProg
import Derived.Test.YtflhkdjglihbmaaGreatDoorVm4
import Derived.Lib.Bytealg
set_option linter.defProp false
set_option linter.unusedVariables false
set_option linter.unusedSimpArgs false
open Go.IntKind (i64)
namespace Go.Proofs.YtflhkdjglihbmaaGreatDoor
open Go Go.Proofs Go.RowKit Go.Shelf
attribute [local go_sem] Oper.semAt_some
def axj(zs:List Int)(j:Nat):Int×Int:=((j:Int),zs[j]?.getD 0)
def bk(zs:List Int)(k:Nat):List (Int×Int):=(List.range k).map λt=>axj zs (zs.length - 1 - t)
def aCn(zs:List Int)(k:Nat):bk zs (k+1)=bk zs k++[axj zs (zs.length - 1 - k)]:=by simp[bk,List.range_succ]
def axk(zs:List Int)(k:Nat):(bk zs k).length=k:=by simp[bk]
def KpB(n₀ Bs:Nat)(W W':World):Prop:=Below n₀ W W'/\∀v,W.cell? ⟨Bs,0,none⟩=some v->W'.cell? ⟨Bs,0,none⟩=some v
def KpB.refl(n₀ Bs:Nat)(W:World):KpB n₀ Bs W W:=⟨Below.refl _ _,λ_ h=>h⟩
def KpB.trans{n₀ Bs:Nat}{A B C:World}(h:KpB n₀ Bs A B)(k:KpB n₀ Bs B C):KpB n₀ Bs A C:=⟨h.1.trans k.1,λv hv=>k.2 v (h.2 v hv)⟩
set_option maxRecDepth 100000 in
set_option maxHeartbeats 4000000 in
def azb(F:Fence)(n:Nat)(h7:F.fn 174)(hro:F.round=none)(hn:1<=n)(l Bs n₀ b off cap:Nat)(zs:List Int)(hreach:zs.length * 8<=140737488351232)(hb:b<n₀)(J Jx:List (Int×Int)->World->Prop)
  (hY:∀pre x W,J pre W->pre.length<zs.length->YieldAt F (n - 1) Tryz.prog l #[.int .i64 x.1,.int .i64 x.2] W λe W'=>(e=.returned (.bool true)/\J (pre++[x]) W'/\KpB n₀ Bs W W')\/(e=.returned (.bool false)/\Jx (pre++[x]) W'))
  (W:World) (hBs:W.cell? ⟨Bs,0,none⟩=some (.slice (some ⟨b,off,none⟩) zs.length cap)) (hc:∀j,j<zs.length->W.cell? ⟨b,off+j,none⟩=some (.int .i64 (zs[j]?.getD 0))) (h0:J [] W):
  CallsIn F n Tryz.prog 174 #[.func (.yield l) #[] #[],.pointer (some ⟨Bs,0,none⟩)] W λe W'=>(∃v,e=.returned v)/\
   ((∃ys,ys=bk zs zs.length/\J ys W')\/(∃pre,(∃k,k<=zs.length/\pre=bk zs k)/\Jx pre W')):=by
 refine callsIn_of_wp Tryz.func174 rfl h7 ?_ hro;simp only[Tryz.ntmps174,List.size_toArray,List.length_cons,List.length_nil,Nat.reduceAdd,Nat.reduceSub,Array.replicate_succ,Array.replicate_zero,List.push_toArray,List.append_toArray,List.nil_append,List.cons_append]
 gi_wp2
 gi_loopw [3] (λi wr=>∃m k:Nat,k+m=zs.length/\i=.int .i64 ((m:Int) - 1)/\J (bk zs k) wr/\KpB n₀ Bs W wr)
  (λi _=>(intOf i+1).toNat)
 case atStart=>exact⟨zs.length,0,by omega,rfl,h0,KpB.refl _ _ _⟩
 case round=>
  obtain⟨m,k,hk,rfl,hJs,hnx⟩:=hrel;have a1E:=hnx.2 _ hBs;cases m with
  |zero=>
   obtain rfl:k=zs.length:=by omega
   gi_wp2
   go_end0
   exact⟨⟨_,rfl⟩,.inl ⟨_,rfl,hJs⟩⟩
  |succ j=>
   have hj:j<zs.length:=by omega
   have e1:(((j+1:Nat):Int) - 1)=(j:Int):=by omega
   simp only[e1];have hcx:wr.cell? ⟨b,off+j,none⟩=some (.int .i64 (zs[j]?.getD 0)):=(hnx.1.cell (p:=⟨b,off+j,none⟩) hb).trans (hc j hj);obtain⟨fn,tmps,assign,body,hy,hR⟩:=hY _ (axj zs j) wr hJs (by rw[axk];omega);dsimp only[axj] at hy;have ek:bk zs k++[axj zs j]=bk zs (k+1):=by rw[aCn];rw[show zs.length - 1 - k=j by omega]
   rw[ek] at hR;clear ek hY;generalize zs[j]?.getD 0=z at hy hcx
   gi_wp2
   refine hR.mono ?_;rintro e W3 (⟨rfl,hJ3,hk3⟩|⟨rfl,hJx3⟩)
   ·gi_wp2
    go_roundw
    case rel=>exact⟨j,k+1,by omega,rfl,hJ3,hnx.trans hk3⟩
    case measure=>simp[intOf]
   ·gi_wp2
    refine bodyPost_ret (results_none rfl _ _ _) rfl ?_;exact⟨⟨_,rfl⟩,.inr ⟨_,⟨k+1,by omega,rfl⟩,hJx3⟩⟩
set_option maxRecDepth 100000 in
set_option maxHeartbeats 1000000 in
def aoU(F:Fence)(n:Nat)(h7:F.fn 174)(hro:F.round=none)(l Bs cap:Nat)(a:Option Addr)(J:List (Int×Int)->World->Prop)(W:World)(hBs:W.cell? ⟨Bs,0,none⟩=some (.slice a 0 cap))(h0:J [] W):
  CallsIn F n Tryz.prog 174 #[.func (.yield l) #[] #[],.pointer (some ⟨Bs,0,none⟩)] W λe W'=>(∃v,e=.returned v)/\J [] W':=by
 refine callsIn_of_wp Tryz.func174 rfl h7 ?_ hro;simp only[Tryz.ntmps174,List.size_toArray,List.length_cons,List.length_nil,Nat.reduceAdd,Nat.reduceSub,Array.replicate_succ,Array.replicate_zero,List.push_toArray,List.append_toArray,List.nil_append,List.cons_append]
 gi_wp2
 gi_loopw [3] (λi wr=>i=.int .i64 (-1)/\J [] wr) (λ_ _=>0)
 case atStart=>exact⟨rfl,h0⟩
 case round=>
  obtain⟨rfl,hJs⟩:=hrel
  gi_wp2
  go_end0
  exact⟨⟨_,rfl⟩,hJs⟩
set_option maxHeartbeats 1000000 in
def aCo(F:Fence)(n:Nat)(h5:F.fn 141)(hro:F.round=none)(a:Option Addr)(len cap:Nat)(w:World):
  CallsIn F n Tryz.prog 141 #[.slice a len cap] w λe w'=>e=.returned (.func (.func 174) #[] #[.pointer (some ⟨w.heap.size,0,none⟩)])/\w'=w.alloc (.cells #[.slice a len cap] 58):=by
 refine callsIn_of_wp Tryz.func141 rfl h5 ?_ hro;simp only[Tryz.ntmps141,List.size_toArray,List.length_cons,List.length_nil,Nat.reduceAdd,Nat.reduceSub,Array.replicate_succ,Array.replicate_zero,List.push_toArray,List.append_toArray,List.nil_append,List.cons_append]
 gi_wp2
 go_ret
 exact⟨rfl,rfl⟩
def aeF(n₀:Nat)(W:World)(sv:Value)(zs:List Int):Prop:=
 ∃a cap,sv=.slice a zs.length cap/\(zs≠[]->∃b off,a=some ⟨b,off,none⟩/\b<n₀/\∀j,j<zs.length->W.cell? ⟨b,off+j,none⟩=some (.int .i64 (zs[j]?.getD 0)))
def aeF.below{n₀:Nat}{A B:World}(h:Below n₀ A B){sv:Value}{zs:List Int}(q:aeF n₀ A sv zs):aeF n₀ B sv zs:=by obtain⟨a,cap,e,q⟩:=q;refine⟨a,cap,e,λhz=> ?_⟩;obtain⟨b,off,e2,hb,hc⟩:=q hz;exact⟨b,off,e2,hb,λj hj=>(h.cell (p:=⟨b,off+j,none⟩) hb).trans (hc j hj)⟩
def atT(F:Fence)(n:Nat)(h7:F.fn 174)(hro:F.round=none)(hn:1<=n)(Bs n₀:Nat)(sv:Value)(zs:List Int)(hreach:zs.length * 8<=140737488351232)(w:World)(hBs:Bs<w.heap.size)(hn₀:n₀<=w.heap.size)
  (hc:w.cell? ⟨Bs,0,none⟩=some sv) (hI:aeF n₀ w sv zs):
  SeqStopsK F n Tryz.prog 174 #[.pointer (some ⟨Bs,0,none⟩)] (λx:Int×Int=>#[Value.int .i64 x.1,Value.int .i64 x.2]) (KpB n₀ Bs) (λys=>ys=bk zs zs.length)
   (λpre=>∃k,k<=zs.length/\pre=bk zs k) zs.length w:=λl J Jx W hW _ _ hY h0=>by
 have hc':=(hW.cell (p:=⟨Bs,0,none⟩) hBs).trans hc;obtain⟨a,cap,rfl,q⟩:=hI.below (hW.mono hn₀)
 by_cases hz:zs=[]
 ·subst hz;exact(aoU F n h7 hro l Bs cap a J W hc' h0).mono λe W' ⟨he,hj⟩=>⟨he,.inl ⟨_,rfl,hj⟩⟩
 ·obtain⟨b,off,rfl,hb,hcs⟩:=q hz;exact azb F n h7 hro hn l Bs n₀ b off cap zs hreach hb J Jx hY W hc' hcs h0
def KpB.keeps{n₀ Bs:Nat}(W:World)(l:Nat)(o o':Obj)(hl:n₀<=l)(h:W.heap[l]? =some o)(h1:o.isCells=false)(h2:o.isWalk=false):KpB n₀ Bs W (W.putObj l o'):=by
 refine⟨(Below.refl n₀ W).trans ⟨rfl,rfl,rfl, ?_, ?_⟩, ?_⟩
 ·simp[World.putObj]
 ·intro k hk;exact World.putObj_heap_other (by omega)
 ·intro v hv
  by_cases hb:Bs=l
  ·subst hb;unfold World.cell? at hv;simp only[h] at hv;cases o<;>simp_all [Obj.isCells]
  ·rw[<-hv];exact World.cell?_of_block (World.putObj_heap_other hb)
end Go.Proofs.YtflhkdjglihbmaaGreatDoor
namespace Go.Proofs.YtflhkdjglihbmaaGreatDoor
open Go.Vm (gQ iL uK)
open Go Go.Proofs Go.RowKit Go.Shelf
attribute [local go_sem] Oper.semAt_some
structure Nk where
 kind:Int
 op:Int
 text:ByteArray
 other:ByteArray
 kids:List Int
def azc(n₀:Nat)(W:World)(b o:Nat)(n:Nk):Prop:=
 ∃sv,W.cell? ⟨b,o,none⟩=some (.int .i64 n.kind)/\W.cell? ⟨b,o+1,none⟩=some (.int .i64 n.op)/\W.cell? ⟨b,o+2,none⟩=some (.string n.text)/\W.cell? ⟨b,o+3,none⟩=some (.string n.other)/\W.cell? ⟨b,o+4,none⟩=some sv/\aeF n₀ W sv n.kids
def avy(n₀:Nat)(W:World)(sv:Value)(l:List Nk):Prop:=
 ∃a cap,sv=.slice a l.length cap/\(l≠[]->∃b off,a=some ⟨b,off,none⟩/\b<n₀/\∀i n,l[i]? =some n->azc n₀ W b (off+i * 5) n)
def am4(F:Fence)(n:Nat)(h5:F.fn 28)(hro:F.round=none)(x lo hi:Int)(w:World):
  CallsIn F n Tryz.prog 28 #[.int .i64 x,.int .i64 lo,.int .i64 hi] w λe w'=>e=.returned (.bool (decide (lo<=x) && decide (x<=hi)))/\w'=w:=by
 refine callsIn_of_wp Tryz.func28 rfl h5 ?_ hro;simp only[Tryz.ntmps28,List.size_toArray,List.length_cons,List.length_nil,Nat.reduceAdd,Nat.reduceSub,Array.replicate_succ,Array.replicate_zero,List.push_toArray,List.append_toArray,List.nil_append,List.cons_append]
 gi_wp2
 all_goals go_ret
 all_goals refine⟨?_,rfl⟩
 ·rename_i h;rw[decide_eq_true h,Bool.true_and];rfl
 ·rename_i h;rw[decide_eq_false (by omega),Bool.false_and];rfl
def ace(st:List Int):Prop:=∀(j:Nat) x,st[j]? =some x->0<=x/\x<=j
def VO{st:List Int}(h:ace st)(j:Nat):0<=st[j]?.getD 0/\st[j]?.getD 0<=j:=by
 cases hj:st[j]? with
 |none=>simp
 |some x=>exact h j x hj
def JX{st:List Int}(h:ace st):∀(ks:List Int) (a r:Int), -1<=a->a<st.length->gQ st ks a=some r-> -1<=r/\r<st.length
 |[],a,r,h1,h2,e=>by rw[gQ] at e;cases e;exact⟨h1,h2⟩
 |k::ks,a,r,h1,h2,e=>by
  rw[gQ] at e;split at e
  ·cases e
  ·rename_i hc;have hk:=VO h k.toNat;exact JX h ks _ r (by omega) (by omega) e
def aau(st:List Int)(k:List Int):∀(ks:List Int) (a:Int),gQ st (ks++k) a=(gQ st ks a).bind λr=>gQ st k r
 |[],a=>rfl
 |x::ks,a=>by
  rw[List.cons_append,gQ,gQ];split
  ·rfl
  ·exact aau st k ks _
def Xu:∀(l l':List (List Int)) (st:List Int),iL st (l++l')=(iL st l).bind λs=>iL s l'
 |[],l',st=>rfl
 |n::l,l',st=>by
  rw[List.cons_append,iL,iL];cases gQ st n.reverse ((st.length:Int) - 1) with
  |none=>rfl
  |some a=>exact Xu l l' _
def YX:∀(l:List (List Int)) (st r:List Int),iL st l=some r->r.length=st.length+l.length
 |[],st,r,h=>by rw[iL] at h;cases h;rfl
 |n::l,st,r,h=>by
  rw[iL] at h;split at h
  ·cases h
  ·have:=YX l _ r h;simp at this|-;omega
def X8{st:List Int}(h:ace st){a:Int}(h1: -1<=a)(h2:a<st.length):ace (st++[a+1]):=by
 intro j x hj;rw[List.getElem?_append] at hj;split at hj
 ·exact h j x hj
 ·rename_i hn;have:j - st.length=0:=by
   cases hd:j - st.length with
   |zero=>rfl
   |succ d=>rw[hd] at hj;simp at hj
  rw[this] at hj;simp at hj;omega
def agS:∀(l:List (List Int)) (st r:List Int),ace st->iL st l=some r->ace r
 |[],st,r,h0,h=>by rw[iL] at h;cases h;exact h0
 |n::l,st,r,h0,h=>by
  rw[iL] at h;split at h
  ·cases h
  ·rename_i a ha;have:=JX h0 _ _ _ (by omega) (by omega) ha;exact agS l _ r (X8 h0 this.1 this.2) h
def X9:ace []:=λj x h=>by simp at h
def Xv(W:World)(a:Addr)(u:Value):W.grownBy (W.setCell a u) (some a.block):=
 ⟨rfl,rfl,rfl,by simp[World.setCell],λk _ hk=>Below.heap_setCell _ _ _ k (λe=>hk (by rw[e]))⟩
def Q5(len:Nat)(st:List Int):Array Value:=(st.map (Value.int .i64)++List.replicate (len - st.length) (Value.int .i64 0)).toArray
def aeG{len:Nat}{st:List Int}(h:st.length<=len):(Q5 len st).size=len:=by simp[Q5];omega
def agT{len:Nat}{st:List Int}{j:Nat}(h:j<len):(Q5 len st)[j]? =some (.int .i64 (st[j]?.getD 0)):=by
 simp only[Q5,List.getElem?_toArray];rw[List.getElem?_append];split
 ·rename_i hj;simp at hj;simp[hj]
 ·rename_i hj;simp at hj;rw[List.getElem?_replicate,if_pos (by simp;omega),List.getElem?_eq_none (by omega)];rfl
def axl{len:Nat}{st:List Int}(h:st.length<len)(x:Int):(Q5 len st).setIfInBounds st.length (.int .i64 x)=Q5 len (st++[x]):=by
 apply Array.ext
 ·simp[Q5];omega
 ·intro j h1 h2;apply Option.some.inj;rw[<-Array.getElem?_eq_getElem,<-Array.getElem?_eq_getElem];have hj:j<len:=by rw[Array.size_setIfInBounds,aeG (by omega)] at h1;exact h1
  rw[agT hj,Array.getElem?_setIfInBounds];split
  ·rename_i e;subst e;rw[if_pos (by rw[aeG (by omega)];exact h)];simp
  ·rename_i e;rw[agT hj,List.getElem?_append];split
   ·rfl
   ·rw[List.getElem?_eq_none (by omega),List.getElem?_eq_none (by simp;omega)]
structure GZ(w:World)(len:Nat)(st:List Int)(W:World):Prop where
 b0:Boxed W w.heap.size 58 (.slice none 0 0)
 b1:Boxed W (w.heap.size+1) 4 (.bool false)
 b2:W.heap[w.heap.size+2]? =some (.cells (Q5 len st) 3 (0,0))
 b3:Boxed W (w.heap.size+3) 58 (.slice (some ⟨w.heap.size+2,0,none⟩) len len)
 bel:Below w.heap.size w W
def GZ.grown{w:World}{len:Nat}{st:List Int}{A B:World}(h:GZ w len st A){row:Option Nat}(hg:A.grownBy B row)(hr:∀r,row=some r->w.heap.size+3<r):GZ w len st B:=by
 have ne:∀k,k<=w.heap.size+3->some k≠row:=λk hk e=>by have:=hr k e.symm;omega
 refine⟨h.b0.kept hg (ne _ (by omega)),h.b1.kept hg (ne _ (by omega)), ?_,h.b3.kept hg (ne _ (by omega)),h.bel.grown hg h.bel.size λk e=>by have:=hr k e;omega⟩;rw[hg.block _ (Array.getElem?_eq_some_iff.1 h.b2).1 (ne _ (by omega))];exact h.b2
def GZ.alloc{w:World}{len:Nat}{st:List Int}{A:World}(h:GZ w len st A)(o:Obj):GZ w len st (A.alloc o):=h.grown (World.grownBy_alloc A o none) (λr e=>by cases e)
def GZ.size{w:World}{len:Nat}{st:List Int}{A:World}(h:GZ w len st A):w.heap.size+3<A.heap.size:=h.b3.lt
def GZ.set{w:World}{len:Nat}{st:List Int}{A:World}(h:GZ w len st A){b:Nat}(hb:w.heap.size+3<b)(u:Value):GZ w len st (A.setCell ⟨b,0,none⟩ u):=h.grown (Xv A _ u) (λr e=>by cases e;exact hb)
def GZ.fail{w:World}{len:Nat}{st:List Int}{A:World}(h:GZ w len st A):GZ w len st ((A.setCell ⟨w.heap.size,0,none⟩ (.slice none 0 0)).setCell ⟨w.heap.size+1,0,none⟩ (.bool false)):=by refine⟨(h.b0.set _).other (by omega) _,(h.b1.other (by omega) _).set _, ?_,(h.b3.other (by omega) _).other (by omega) _,(h.bel.setCell (p:=⟨w.heap.size,0,none⟩) (Nat.le_refl _) _).setCell (p:=⟨w.heap.size+1,0,none⟩) (Nat.le_succ _) _⟩;rw[Below.heap_setCell _ _ _ _ (by simp),Below.heap_setCell _ _ _ _ (by simp)];exact h.b2
def GZ.push{w:World}{len:Nat}{st:List Int}{A:World}(h:GZ w len st A)(hl:st.length<len)(x:Int):GZ w len (st++[x]) (A.setCell ⟨w.heap.size+2,st.length,none⟩ (.int .i64 x)):=by
 have hg:=Xv A ⟨w.heap.size+2,st.length,none⟩ (.int .i64 x);have ne:∀k,k≠w.heap.size+2->some k≠some (w.heap.size+2):=λk hk e=>hk (Option.some.inj e)
 refine⟨h.b0.kept hg (ne _ (by omega)),h.b1.kept hg (ne _ (by omega)), ?_,h.b3.kept hg (ne _ (by omega)),h.bel.setCell (p:=⟨w.heap.size+2,st.length,none⟩) (Nat.le_add_right _ _) _⟩;obtain⟨hlt,hk⟩:=Array.getElem?_eq_some_iff.1 h.b2;show(A.heap.modify (w.heap.size+2) _)[w.heap.size+2]? =_;rw[Array.getElem?_eq_getElem (by rw[Array.size_modify];exact hlt),Array.getElem_modify_self,hk];show some (Obj.cells (if(none:Option _).isSome then _ else _) _ _)=_;rw[if_neg (by simp),axl hl]
def GZ.elem{w:World}{len:Nat}{st:List Int}{A:World}(h:GZ w len st A){j:Nat}(hj:j<len):A.cell? ⟨w.heap.size+2,j,none⟩=some (.int .i64 (st[j]?.getD 0)):=by simp only[World.cell?,h.b2];simp[agT hj]
def GZ.azd{w:World}{len:Nat}{st:List Int}{A:World}(h:GZ w len st A)(j:Nat):A.frozen? ⟨w.heap.size+2,j,none⟩=false:=by simp[World.frozen?,h.b2]
structure Marks(n:Nat)(ms:List Nat)(W:World):Prop where
 nd:ms.Nodup
 at_:∀D,D∈ms->n+3<D/\W.heap[D]? =some (.deferred (some []))
def Marks.grown{n:Nat}{ms:List Nat}{A B:World}(h:Marks n ms A){row:Option Nat}(hg:A.grownBy B row)(hr:∀r,row=some r->r ∉ ms):Marks n ms B:=by refine⟨h.nd,λD hD=>⟨(h.at_ D hD).1, ?_⟩⟩;rw[hg.block D (Array.getElem?_eq_some_iff.1 (h.at_ D hD).2).1 (λe=>hr D e.symm hD)];exact(h.at_ D hD).2
def Marks.lt{n:Nat}{ms:List Nat}{A:World}(h:Marks n ms A):∀D,D∈ms->D<A.heap.size:=λD hD=>(Array.getElem?_eq_some_iff.1 (h.at_ D hD).2).1
def Marks.alloc{n:Nat}{ms:List Nat}{A:World}(h:Marks n ms A)(o:Obj):Marks n ms (A.alloc o):=h.grown (World.grownBy_alloc A o none) (λr e=>by cases e)
def Marks.set{n:Nat}{ms:List Nat}{A:World}(h:Marks n ms A)(a:Addr)(u:Value){c:Array Value}{t:TypeId}{f:Nat×Nat}(ha:A.heap[a.block]? =some (.cells c t f)):Marks n ms (A.setCell a u):=
 h.grown (Xv A a u) (λr e hr=>by cases e;have:=(h.at_ _ hr).2;rw[ha] at this;cases this)
def aze(D:Nat):Deferred:={target:=.collected D,args:=#[]}
set_option maxRecDepth 100000 in
def aCp(n:Nat)(hn:n<=400)(w:World):(Instr.makeSlice 58 (.int .i64 (n:Int)) (.int .i64 (n:Int))).run Tryz.prog w=.ok (.slice (some ⟨w.heap.size,0,none⟩) n n) (w.alloc (.cells (Q5 n []) 3)):=by
 obtain⟨i0,hi,hz0,hz1,hz2⟩:=info_parts (P:=Tryz.prog) (e:=3) (z:=.int .i64 0) (size:=1) (bytes:=8) (by kernel_rfl);rw[run_makeSlice w 58 3 i0 _ Tryz.underlying58 hi hz0 .i64 .i64 n n (by omega) (by omega) (by rw[hz1];simp;omega) (by rw[hz2];omega) (by omega)];simp only[Int.toNat_natCast];rw[hz1];congr 3;apply Array.ext
 ·simp[size_madeCells,Q5]
 ·intro j h1 h2;simp[madeCells,Q5,Value.cells,Nat.mod_one]
def YZ{F:Fence}{n:Nat}{P:Program}{fn:Func}{tmps:Array Value}{R:Ending->World->Prop}{b:Nat}(K:World->Prop)(hK:∀W D,K W->b+3<D->K (W.putObj D (.deferred none)))
  (he:∀W,K W->LeavesIn F n P fn tmps R [] .returning W):∀(ms:List Nat) (W:World),K W->Marks b ms W->LeavesInM F n P fn tmps R (ms.map aze) .returning W
 |[],W,k,_=>he W k
 |D::ms,W,k,h=>by
  obtain⟨h1,h2⟩:=h.at_ D List.mem_cons_self;refine⟨by simp,.inl ⟨D,_,rfl,run_takeDeferred h2, ?_⟩⟩;refine YZ K hK he ms _ (hK W D k h1) ?_;have nd:=List.nodup_cons.1 h.nd;have h':Marks b ms W:=⟨nd.2,λd hd=>h.at_ d (List.mem_cons_of_mem _ hd)⟩
  exact h'.grown (grownBy_putObj' W D _) (λr e=>by cases e;exact nd.1)
end Go.Proofs.YtflhkdjglihbmaaGreatDoor
namespace Go.Proofs.YtflhkdjglihbmaaGreatDoor
open Go.Vm (gQ iL uK)
open Go Go.Proofs Go.RowKit Go.Shelf
attribute [local go_sem] Oper.semAt_some
def agU(st:List Int)(pre:List Int)(a r k:Int)(h:gQ st pre a=some r):gQ st (pre++[k]) a=if r<0\/k≠r then none else some ((st[k.toNat]?.getD 0) - 1):=by rw[aau,h];rfl
def Marks.fail{w:World}{len:Nat}{st:List Int}{ms:List Nat}{A:World}(hB:GZ w len st A)(h:Marks w.heap.size ms A):Marks w.heap.size ms ((A.setCell ⟨w.heap.size,0,none⟩ (.slice none 0 0)).setCell ⟨w.heap.size+1,0,none⟩ (.bool false)):=
 (h.set ⟨w.heap.size,0,none⟩ _ hB.b0).set ⟨w.heap.size+1,0,none⟩ _ (hB.b1.other (by omega) _)
def azf(zs:List Int):(bk zs zs.length).map (λx:Int×Int=>x.2)=zs.reverse:=by
 apply List.ext_getElem
 ·simp[bk]
 ·intro i h1 h2;have hi:i<zs.length:=by simpa[bk] using h1
  simp[bk,axj];rw[List.getElem?_eq_getElem (by omega)];rfl
def axn(zs:List Int){k:Nat}(hk:k<=zs.length):∃r,bk zs zs.length=bk zs k++r:=by
 refine⟨(bk zs zs.length).drop k, ?_⟩;have h:bk zs k=(bk zs zs.length).take k:=by unfold bk;rw[<-List.map_take,List.take_range,Nat.min_eq_left hk]
 rw[h,List.take_append_drop]
def axo{st zs:List Int}{k:Nat}{a:Int}(hk:k<=zs.length)(h:gQ st ((bk zs k).map (λx:Int×Int=>x.2)) a=none):gQ st zs.reverse a=none:=by obtain⟨r,hr⟩:=axn zs hk;rw[<-azf,hr,List.map_append,aau,h];rfl
def aqs{l:List Nk}{i:Nat}{nd:Nk}{st:List Int}(hnd:l[i]? =some nd)(hs:iL [] ((l.take i).map (·.kids))=some st)(h:gQ st nd.kids.reverse ((st.length:Int) - 1)=none):iL [] (l.map (·.kids))=none:=by
 have hd:l.drop i=nd::l.drop (i+1):=by obtain⟨h1,h2⟩:=List.getElem?_eq_some_iff.1 hnd;rw[List.drop_eq_getElem_cons h1,h2]
 have e:l.map (·.kids)=(l.take i).map (·.kids)++(nd.kids::(l.drop (i+1)).map (·.kids)):=by rw[<-List.map_cons,<-hd,<-List.map_append,List.take_append_drop]
 rw[e,Xu,hs];show iL st (nd.kids::_)=none;rw[iL,h]
def atU(w:World)(l:List Nk)(e:Ending)(w':World):Prop:=
 Below w.heap.size w w'/\∃g bb,e=.returned (.tuple #[g,.bool bb])/\
  ((uK (l.map (·.kids))=none/\g=.slice none 0 0/\bb=false)\/
   ∃st,uK (l.map (·.kids))=some st/\g=.slice (some ⟨w.heap.size+2,0,none⟩) l.length l.length/\w'.heap[w.heap.size+2]? =some (.cells (Q5 l.length st) 3 (0,0))/\bb=(st[l.length - 1]?.getD 0==0))
def azg{tmps:Array Value}{w W:World}{g:Value}{bb:Bool}(h2:tmps.getD 2 undef=.pointer (some ⟨w.heap.size,0,none⟩))(h3:tmps.getD 3 undef=.pointer (some ⟨w.heap.size+1,0,none⟩))
  (b0:Boxed W w.heap.size 58 g) (b1:Boxed W (w.heap.size+1) 4 (.bool bb)) (hg:∃a n c,g=.slice a n c):(results Tryz.f98 tmps).run Tryz.prog W=.ok (.tuple #[g,.bool bb]) W:=by
 obtain⟨a,n,c,rfl⟩:=hg;have c0:=b0.cell;have c1:=b1.cell;refine Vm.ahW (P:=Tryz.prog) (w:=W) (fn:=Tryz.f98) (tmps:=tmps) (gs:=[.slice a n c,.bool bb]) ?_ rfl;intro i x hx;have hr:Tryz.f98.results.toList=[.cell 2 58,.cell 3 4]:=rfl;rw[hr] at hx
 match i,hx with
 |0,hx=>cases hx;refine⟨_,rfl, ?_⟩;simp only[Vm.aoE,h2];simp[go_sem,c0]
 |1,hx=>cases hx;refine⟨_,rfl, ?_⟩;simp only[Vm.aoE,h3];simp[go_sem,c1]
 |i+2,hx=>simp at hx
set_option maxRecDepth 100000 in
set_option maxHeartbeats 4000000 in
def axp(w:World)(a:Option Addr)(cap:Nat)(l:List Nk)(hl:l.length<=140737488351232)(hkl:∀n,n∈l->n.kids.length * 8<=140737488351232)(hN:avy w.heap.size w (.slice a l.length cap) l):
  CallsIn Fence.wide 9 Tryz.prog 98 #[.slice a l.length cap] w λe w'=>atU w l e w':=by
 refine callsIn_of_wp_marks Tryz.func98 rfl trivial ?_ rfl;simp only[Tryz.ntmps98,List.size_toArray,List.length_cons,List.length_nil,Nat.reduceAdd,Nat.reduceSub,Array.replicate_succ,Array.replicate_zero,List.push_toArray,List.append_toArray,List.nil_append,List.cons_append]
 by_cases hb:(decide (1<=(l.length:Int)) && decide ((l.length:Int)<=400))=true
 ·have hmk:=λW=>aCp l.length (by simp at hb;omega) W
  gi_wp2_with (refine⟨trivial, ?_⟩;gi_at_call 28;refine(am4 Fence.wide _ trivial rfl _ _ _ _).mono ?_;rintro e w' ⟨rfl,rfl⟩;rw[hb])
  refine wpIn_loop (λa' W=>∃(U:Nat->Value) (i:Nat) (st:List Int) (ms:List Nat),i<=l.length/\iL [] ((l.take i).map (·.kids))=some st/\st.length=i/\GZ w l.length st W/\Marks w.heap.size ms W/\
   a'={tmps:=#[.slice a l.length cap,undef,.pointer (some ⟨w.heap.size,0,none⟩),.pointer (some ⟨w.heap.size+1,0,none⟩),.pointer (some ⟨w.heap.size+3,0,none⟩),U 5,U 6,U 7,undef,U 9,.slice a l.length cap,.int .i64 (l.length:Int),.bool true,.bool false,.slice a l.length cap,.int .i64 (l.length:Int),.slice (some ⟨w.heap.size+2,0,none⟩) l.length l.length,.slice a l.length cap,.int .i64 (l.length:Int),.int .i64 (i:Int),U 20,U 21,U 22,U 23,U 24,U 25,U 26,U 27,U 28,U 29,U 30,U 31,U 32,U 33,U 34,U 35,U 36,U 37,U 38,U 39,U 40,U 41,U 42,U 43,U 44,U 45,U 46,U 47,U 48,U 49,U 50,U 51,U 52,U 53,U 54,U 55,U 56],defers:=ms.map aze}) (λa' _=>((l.length:Int) - intOf (a'.tmps.getD 19 undef)).toNat) ?start ?round
  case start=>
   refine⟨λ_=>undef,0,[],[],Nat.zero_le _,by simp[iL],rfl, ?_,⟨List.nodup_nil,λD h=>by cases h⟩, ?_⟩
   ·have g0:=Boxed.new w 58 (.slice none 0 0);have g1:=Boxed.new (w.alloc (.cells #[.slice none 0 0] 58)) 4 (.bool false);have g2:=World.alloc_heap_new ((w.alloc (.cells #[.slice none 0 0] 58)).alloc (.cells #[.bool false] 4)) (.cells (Q5 l.length []) 3);have g3:=Boxed.new (((w.alloc (.cells #[.slice none 0 0] 58)).alloc (.cells #[.bool false] 4)).alloc (.cells (Q5 l.length []) 3)) 58 (.slice (some ⟨w.heap.size+2,0,none⟩) l.length l.length);simp only[World.size_alloc] at g1 g2 g3;refine⟨((g0.alloc _).alloc _).alloc _,(g1.alloc _).alloc _, ?_,g3, ?_⟩
    ·rw[Below.heap_alloc _ _ _ (by simp)];exact g2
    ·exact((((Below.refl _ w).alloc (Nat.le_refl _) _).alloc (by simp) _).alloc (by simp;omega) _).alloc (by simp;omega) _
   ·rfl
  case round=>
   rintro a' W ⟨U,i,st,ms,hi,hs,hsl,hB,hM,rfl⟩;have hst:=agS _ _ _ X9 hs
   by_cases hlt:i<l.length
   ·obtain⟨a0,cap0,ea,hN'⟩:=hN;have hne:l≠[]:=by intro e;subst e;simp at hlt
    obtain⟨b,off,e1,hbn,hnodes⟩:=hN' hne;cases ea;subst e1;clear hN';obtain⟨nd,hnd⟩:∃nd,l[i]? =some nd:=⟨l[i],by simp[hlt]⟩
    have hkn:=hkl nd (List.mem_of_getElem? hnd);obtain⟨sv,h0,h1,h2,h3,h4,hk⟩:=hnodes i nd hnd;have hkW:=hk.below hB.bel;have c0:W.cell? ⟨b,off+i * 5,none⟩=some (.int .i64 nd.kind):=(hB.bel.cell (p:=⟨b,off+i * 5,none⟩) hbn).trans h0;have c1:W.cell? ⟨b,off+i * 5+1,none⟩=some (.int .i64 nd.op):=(hB.bel.cell (p:=⟨b,off+i * 5+1,none⟩) hbn).trans h1;have c2:W.cell? ⟨b,off+i * 5+2,none⟩=some (.string nd.text):=(hB.bel.cell (p:=⟨b,off+i * 5+2,none⟩) hbn).trans h2;have c3:W.cell? ⟨b,off+i * 5+3,none⟩=some (.string nd.other):=(hB.bel.cell (p:=⟨b,off+i * 5+3,none⟩) hbn).trans h3;have c4:W.cell? ⟨b,off+i * 5+4,none⟩=some sv:=(hB.bel.cell (p:=⟨b,off+i * 5+4,none⟩) hbn).trans h4;obtain⟨ka,kc,esv,hkc⟩:=hk;subst esv;clear hnodes h0 h1 h2 h3 h4 hkc
    gi_wp2_with (refine⟨trivial, ?_⟩;gi_at_call 141;refine(aCo Fence.wide _ trivial rfl _ _ _ _).mono ?_;rintro e w' ⟨rfl,rfl⟩)
    clear c0 c1 c2 c3 c4;obtain⟨o1,ho1⟩:∃o,o=Obj.cells #[Value.int .i64 nd.kind,.int .i64 nd.op,.string nd.text,.string nd.other,.slice ka nd.kids.length kc] 60:=⟨_,rfl⟩
    rw[<-ho1];have hsz:=hB.size;have bA:=(Boxed.new (W.alloc o1) 3 (.int .i64 ((i:Int) - 1))).alloc (.cells #[.slice ka nd.kids.length kc] 58);have bS:=Boxed.new ((W.alloc o1).alloc (.cells #[.int .i64 ((i:Int) - 1)] 3)) 58 (.slice ka nd.kids.length kc);have hB1:=((hB.alloc o1).alloc (.cells #[.int .i64 ((i:Int) - 1)] 3)).alloc (.cells #[.slice ka nd.kids.length kc] 58);have hM1:=((hM.alloc o1).alloc (.cells #[.int .i64 ((i:Int) - 1)] 3)).alloc (.cells #[.slice ka nd.kids.length kc] 58);obtain⟨WL,hWL⟩:∃WL,WL=((W.alloc o1).alloc (.cells #[.int .i64 ((i:Int) - 1)] 3)).alloc (.cells #[.slice ka nd.kids.length kc] 58):=⟨_,rfl⟩
    rw[<-hWL] at bA bS hB1 hM1|-;simp only[World.size_alloc] at bA bS;have hWs:WL.heap.size=W.heap.size+3:=by rw[hWL];simp
    have aTM:aeF w.heap.size WL (.slice ka nd.kids.length kc) nd.kids:=hkW.below (by rw[hWL];exact(((Below.refl _ W).alloc (by omega) _).alloc (by simp;omega) _).alloc (by simp;omega) _);clear hWL ho1 hkW;have aCq:=hM.lt;refine wpIn_rangeFunc_ownG rfl (by decide) (gf:=174) (lb:=#[.pointer (some ⟨W.heap.size+1+1,0,none⟩)]) rfl trivial (enters_of Tryz.func174 (by kernel_rfl) rfl)
     (atT Fence.wide 8 trivial rfl (by decide) (W.heap.size+1+1) w.heap.size _ nd.kids hkn WL (by omega) (by omega) bS.cell aTM)
     (λh k=>h.trans k) (λW' k o o' hk h h1 h2=>KpB.keeps W' k o o' (by omega) h h1 h2) (Below.refl _ _) (λ_=>rfl)
     (λpre WX=>GZ w l.length st WX/\Marks w.heap.size ms WX/\∃at_,gQ st (pre.map (·.2)) ((i:Int) - 1)=some at_/\Boxed WX (W.heap.size+1) 3 (.int .i64 at_))
     (λc pre WX=>c=.ret/\GZ w l.length st WX/\Marks w.heap.size ms WX/\gQ st (pre.map (·.2)) ((i:Int) - 1)=none)
     (by rintro s A B row ⟨q1,q2,at_,q3,q4⟩ hg hr;refine⟨q1.grown hg (λr e=>by have:=(hr r e).1;omega),q2.grown hg (λr e hm=>by have:=(hr r e).1;have:=aCq r hm;omega),at_,q3,q4.kept hg (λe=>by have:=(hr _ e.symm).1;omega)⟩)
     (by rintro c s A B row ⟨q0,q1,q2,q3⟩ hg hr;exact⟨q0,q1.grown hg (λr e=>by have:=(hr r e).1;omega),q2.grown hg (λr e hm=>by have:=(hr r e).1;have:=aCq r hm;omega),q3⟩)
     ⟨hB1,hM1,_,rfl,bA⟩
     (λx=>{tmps:=#[.slice (some ⟨b,off,none⟩) l.length cap,undef,.pointer (some ⟨w.heap.size,0,none⟩),.pointer (some ⟨w.heap.size+1,0,none⟩),.pointer (some ⟨w.heap.size+3,0,none⟩),.int .i64 (i:Int),.pointer (some ⟨W.heap.size,0,none⟩),.pointer (some ⟨W.heap.size+1,0,none⟩),undef,.int .i64 x.2,.slice (some ⟨b,off,none⟩) l.length cap,.int .i64 (l.length:Int),.bool true,.bool false,.slice (some ⟨b,off,none⟩) l.length cap,.int .i64 (l.length:Int),.slice (some ⟨w.heap.size+2,0,none⟩) l.length l.length,.slice (some ⟨b,off,none⟩) l.length cap,.int .i64 (l.length:Int),.int .i64 (i:Int),.bool true,.int .i64 (i:Int),.pointer (some ⟨b,off+i * 5,none⟩),.agg #[.int .i64 nd.kind,.int .i64 nd.op,.string nd.text,.string nd.other,.slice ka nd.kids.length kc],.int .i64 (i:Int),.int .i64 ((i:Int) - 1),.pointer (some ⟨W.heap.size,4,none⟩),.slice ka nd.kids.length kc,.func (.func 174) #[] #[.pointer (some ⟨W.heap.size+1+1,0,none⟩)],.int .i64 x.1,.int .i64 x.2,U 31,U 32,U 33,U 34,U 35,U 36,U 37,U 38,U 39,U 40,U 41,U 42,U 43,U 44,U 45,U 46,U 47,U 48,U 49,U 50,U 51,U 52,U 53,U 54,U 55,U 56],defers:=[]}) ?assign ?body ?done ?stop
    case assign=>
     intro l' x WX K hK
     gi_wp2
     exact hK
    case body=>
     rintro l' pre x WX ⟨q1,q2,at_,q3,q4⟩ _;have hr:=JX hst _ _ _ (by omega) (by omega) q3;have d4:=q4.cell;have d4f:=q4.frozen;have d3:=q1.b3.cell;have d0:=q1.b0.cell;have d0f:=q1.b0.frozen;have d1:=q1.b1.cell;have d1f:=q1.b1.frozen
     by_cases hneg:at_<0
     ·gi_wp2
      exact⟨((KeepsOthers.setCell _ _ _).trans (KeepsOthers.setCell _ _ _)).from _,rfl,q1.fail,Marks.fail q1 q2,by simp only[List.map_append,List.map_cons,List.map_nil];rw[agU st _ _ _ x.2 q3,if_pos (.inl hneg)]⟩
     ·obtain⟨j,rfl⟩:∃j:Nat,at_=(j:Int):=⟨at_.toNat,by omega⟩
      by_cases hke:x.2=(j:Int)
      ·have hz:=VO hst j;have de:=q1.elem (j:=j) (by omega);have def_:=q1.azd j;have hsn:=agU st (pre.map (·.2)) _ _ x.2 q3;rw[hke] at hsn;simp only[Int.toNat_natCast] at hsn;generalize st[j]?.getD 0=z at hz de hsn
       gi_wp2
       refine⟨(KeepsOthers.setCell _ _ _).from _,⟨(Below.refl _ _).setCell (p:=⟨W.heap.size+1,0,none⟩) (by show w.heap.size<=W.heap.size+1;omega) _,λv hv=> ?_⟩,q1.set (by omega) _,q2.set _ _ q4,z - 1, ?_,q4.set _⟩
       ·rw[<-hv];exact World.cell?_of_block (Below.heap_setCell _ _ _ _ (by show W.heap.size+1+1≠W.heap.size+1;omega))
       ·simp only[List.map_append,List.map_cons,List.map_nil];rw[hke,hsn,if_neg (by omega)]
      ·gi_wp2
       exact⟨((KeepsOthers.setCell _ _ _).trans (KeepsOthers.setCell _ _ _)).from _,rfl,q1.fail,Marks.fail q1 q2,by simp only[List.map_append,List.map_cons,List.map_nil];rw[agU st _ _ _ x.2 q3,if_pos (.inr hke)]⟩
    case done=>
     rintro D xs WX hD rfl ⟨q1,q2,at_,q3,q4⟩ hK;have hr:=JX hst _ _ _ (by omega) (by omega) q3;have d3:=q1.b3.cell;have d4:=q4.cell;have de:=q1.elem (j:=i) (by omega);have def_:=q1.azd i;generalize st[i]?.getD 0=z at de
     gi_wp2
     have ei:((i:Int)+1)=((i+1:Nat):Int):=by omega
     rw[ei];have hx:(List.map (λx:Int×Int=>x.2) (bk nd.kids nd.kids.length))=nd.kids.reverse:=azf _;rw[hx] at q3;have hcells:=q1.b2;refine⟨⟨λk=>#[Value.slice (some ⟨b,off,none⟩) l.length cap,undef,Value.pointer (some ⟨w.heap.size,0,none⟩),Value.pointer (some ⟨w.heap.size+1,0,none⟩),Value.pointer (some ⟨w.heap.size+3,0,none⟩),Value.int .i64 (i:Int),Value.pointer (some ⟨W.heap.size,0,none⟩),Value.pointer (some ⟨W.heap.size+1,0,none⟩),undef,U 9,Value.slice (some ⟨b,off,none⟩) l.length cap,Value.int .i64 (l.length:Int),Value.bool true,Value.bool false,Value.slice (some ⟨b,off,none⟩) l.length cap,Value.int .i64 (l.length:Int),Value.slice (some ⟨w.heap.size+2,0,none⟩) l.length l.length,Value.slice (some ⟨b,off,none⟩) l.length cap,Value.int .i64 (l.length:Int),Value.int .i64 ((i+1:Nat):Int),Value.bool true,Value.int .i64 (i:Int),Value.pointer (some ⟨b,off+i * 5,none⟩),Value.agg #[.int .i64 nd.kind,.int .i64 nd.op,.string nd.text,.string nd.other,.slice ka nd.kids.length kc],Value.int .i64 (i:Int),Value.int .i64 ((i:Int) - 1),Value.pointer (some ⟨W.heap.size,4,none⟩),Value.slice ka nd.kids.length kc,Value.func (.func 174) #[] #[.pointer (some ⟨W.heap.size+1+1,0,none⟩)],U 29,U 30,U 31,U 32,U 33,U 34,U 35,U 36,U 37,U 38,U 39,U 40,U 41,U 42,Value.slice (some ⟨w.heap.size+2,0,none⟩) l.length l.length,Value.int .i64 (i:Int),Value.int .i64 at_,Value.int .i64 (at_+1),Value.pointer (some ⟨w.heap.size+2,i,none⟩),Value.int .i64 ((i+1:Nat):Int),U 49,U 50,U 51,U 52,U 53,U 54,U 55,U 56].getD k undef,i+1,st++[at_+1],D::ms,hlt, ?_,by simp[hsl], ?_, ?_,rfl⟩, ?_⟩
     ·rw[List.take_add_one,hnd,Option.toList_some,List.map_append,Xu,hs];show iL st [nd.kids]=_;rw[iL,hsl,q3];rfl
     ·rw[<-hsl];exact q1.push (by omega) _
     ·refine⟨List.nodup_cons.2 ⟨λhm=>by have:=aCq D hm;omega,q2.nd⟩,λd hd=> ?_⟩;have hset:=q2.set ⟨w.heap.size+2,i,none⟩ (.int .i64 (at_+1)) q1.b2;rcases List.mem_cons.1 hd with rfl|hd
      ·refine⟨by omega, ?_⟩;rw[Below.heap_setCell _ _ _ _ (by show d≠w.heap.size+2;omega)];exact hK
      ·exact hset.at_ d hd
     ·simp[intOf];omega
    case stop=>
     rintro D c pre WX hD ⟨k,hkz,rfl⟩ ⟨rfl,q1,q2,q3⟩ hK
     gi_wp2
     have hM2:Marks w.heap.size (D::ms) WX:=⟨List.nodup_cons.2 ⟨λhm=>by have:=aCq D hm;omega,q2.nd⟩,λd hd=>by
      rcases List.mem_cons.1 hd with rfl|hd
      ·exact⟨by omega,hK⟩
      ·exact q2.at_ d hd⟩
     refine YZ (b:=w.heap.size) (λW'=>GZ w l.length st W') (λW' d h hd=>h.grown (grownBy_putObj' W' d _) (λr e=>by cases e;exact hd)) ?_ (D::ms) WX q1 hM2;intro W' q;refine⟨_,azg (w:=w) rfl rfl q.b0 q.b1 ⟨none,0,0,rfl⟩,q.bel,_,_,rfl,.inl ⟨?_,rfl,rfl⟩⟩;simp at hb;rw[uK,if_pos (by simp;omega)];exact aqs hnd hs (by rw[hsl];exact axo hkz q3)
   ·obtain rfl:i=l.length:=by omega
    simp at hb;have d3:=hB.b3.cell;have d0:=hB.b0.cell;have d0f:=hB.b0.frozen;have d1:=hB.b1.cell;have d1f:=hB.b1.frozen;have de:=hB.elem (j:=l.length - 1) (by omega);have def_:=hB.azd (l.length - 1);generalize hz:st[l.length - 1]?.getD 0=z at de
    gi_wp2
    gi_region
    all_goals gi_wp2
    have k0:Boxed ((W.setCell ⟨w.heap.size,0,none⟩ (.slice (some ⟨w.heap.size+2,0,none⟩) l.length l.length)).setCell ⟨w.heap.size+1,0,none⟩ (.bool (z==0))).drew w.heap.size 58 (.slice (some ⟨w.heap.size+2,0,none⟩) l.length l.length):=(hB.b0.set _).other (by omega) _;have k1:Boxed ((W.setCell ⟨w.heap.size,0,none⟩ (.slice (some ⟨w.heap.size+2,0,none⟩) l.length l.length)).setCell ⟨w.heap.size+1,0,none⟩ (.bool (z==0))).drew (w.heap.size+1) 4 (.bool (z==0)):=(hB.b1.other (by omega) _).set _;have k2:((W.setCell ⟨w.heap.size,0,none⟩ (.slice (some ⟨w.heap.size+2,0,none⟩) l.length l.length)).setCell ⟨w.heap.size+1,0,none⟩ (.bool (z==0))).drew.heap[w.heap.size+2]? =some (.cells (Q5 l.length st) 3 (0,0)):=by show((W.setCell _ _).setCell _ _).heap[w.heap.size+2]? =_;rw[Below.heap_setCell _ _ _ _ (by simp),Below.heap_setCell _ _ _ _ (by simp)];exact hB.b2
    have k3:Below w.heap.size w ((W.setCell ⟨w.heap.size,0,none⟩ (.slice (some ⟨w.heap.size+2,0,none⟩) l.length l.length)).setCell ⟨w.heap.size+1,0,none⟩ (.bool (z==0))).drew:=
     ((hB.bel.setCell (p:=⟨w.heap.size,0,none⟩) (Nat.le_refl _) _).setCell (p:=⟨w.heap.size+1,0,none⟩) (Nat.le_succ _) _).drew
    have hM2:Marks w.heap.size ms ((W.setCell ⟨w.heap.size,0,none⟩ (.slice (some ⟨w.heap.size+2,0,none⟩) l.length l.length)).setCell ⟨w.heap.size+1,0,none⟩ (.bool (z==0))).drew:=
     have h:=(hM.set ⟨w.heap.size,0,none⟩ (.slice (some ⟨w.heap.size+2,0,none⟩) l.length l.length) hB.b0).set ⟨w.heap.size+1,0,none⟩ (.bool (z==0)) (hB.b1.other (by omega) _)
     ⟨h.nd,h.at_⟩
    refine YZ (b:=w.heap.size) (λW'=>Boxed W' w.heap.size 58 (.slice (some ⟨w.heap.size+2,0,none⟩) l.length l.length)/\Boxed W' (w.heap.size+1) 4 (.bool (z==0))/\W'.heap[w.heap.size+2]? =some (.cells (Q5 l.length st) 3 (0,0))/\Below w.heap.size w W')
     (λW' d h hd=> ?_) ?_ ms _ ⟨k0,k1,k2,k3⟩ hM2
    ·obtain⟨h0,h1,h2,h3⟩:=h;have hg:=grownBy_putObj' W' d (.deferred none);refine⟨h0.kept hg (λe=>by cases e;omega),h1.kept hg (λe=>by cases e;omega), ?_,h3.grown hg h3.size (λk e=>by cases e;omega)⟩;rw[hg.block _ (Array.getElem?_eq_some_iff.1 h2).1 (λe=>by cases e;omega)];exact h2
    ·rintro W' ⟨h0,h1,h2,h3⟩;refine⟨_,azg (w:=w) rfl rfl h0 h1 ⟨_,_,_,rfl⟩,h3,_,_,rfl,.inr ⟨st, ?_,rfl,h2,by rw[hz]⟩⟩;rw[uK,if_pos (by simp;omega)];rw[List.take_length] at hs;exact hs
 ·have hb':(decide (1<=(l.length:Int)) && decide ((l.length:Int)<=400))=false:=by simpa using hb
  gi_wp2_with (refine⟨trivial, ?_⟩;gi_at_call 28;refine(am4 Fence.wide _ trivial rfl _ _ _ _).mono ?_;rintro e w' ⟨rfl,rfl⟩;rw[hb'])
  have g0:=(Boxed.new w 58 (.slice none 0 0)).alloc (.cells #[.bool false] 4);have g1:=Boxed.new (w.alloc (.cells #[.slice none 0 0] 58)) 4 (.bool false);simp only[World.size_alloc] at g1;refine⟨_,azg (w:=w) rfl rfl g0 g1 ⟨none,0,0,rfl⟩,((Below.refl _ w).alloc (Nat.le_refl _) _).alloc (by simp) _,_,_,rfl,.inl ⟨?_,rfl,rfl⟩⟩;rw[uK,if_neg];intro h;simp at hb h;omega
end Go.Proofs.YtflhkdjglihbmaaGreatDoor
namespace Go.Proofs.YtflhkdjglihbmaaGreatDoor
set_option maxRecDepth 100000
open Go.Vm (gQ iL uK)
open Go Go.Vm Go.Proofs Go.RowKit
def aoV:au->Option (List Int)
 |[]=>some []
 |r::rs=>match r with
  |[.int .i64 x]=>(aoV rs).map (x:: ·)
  |_=>none
def atV:Row->Option Nk
 |[.int .i64 k,.int .i64 op,.str t,.str u,.sl _ 1 kids]=>(aoV kids).bind λks=>if ks.length<=1048576 then some ⟨k,op,⟨⟨t⟩⟩,⟨⟨u⟩⟩,ks⟩ else none
 |_=>none
def aav:au->Option (List Nk)
 |[]=>some []
 |r::rs=>(atV r).bind λk=>(aav rs).map (k:: ·)
def Ya(l:List Int):au:=l.map λx=>[.int .i64 x]
def M.lK(rows:au):Option (au×Bool):=(aav rows).bind λl=>if l.length<=1048576 then
 (match uK (l.map (·.kids)) with
  |none=>some ([],false)
  |some st=>some (Ya st,st[l.length - 1]?.getD 0==0)) else none
def Prim.lK(a:List V)(c:List Cell):Option (au×List Cell):=match a,c with
 |[.d (.sl _ 5 rows)],[]=>(M.lK rows).map λr=>([[.sl true 1 r.1],[.bool r.2]],[])
 |_,_=>none
def aqt:∀(rs:au) (l:List Int),aoV rs=some l->rs=Ya l
 |[],l,h=>by simp only[aoV,kX] at h;subst h;rfl
 |r::rs,l,h=>by
  unfold aoV at h;split at h
  ·cases hd:aoV rs with
   |none=>rw[hd] at h;cases h
   |some l'=>rw[hd] at h;cases h;rw[aqt rs l' hd];rfl
  ·cases h
def aqu{r:Row}{n:Nk}(h:atV r=some n):∃t u own,n.text=⟨⟨t⟩⟩/\n.other=⟨⟨u⟩⟩/\n.kids.length<=1048576/\r=[.int .i64 n.kind,.int .i64 n.op,.str t,.str u,.sl own 1 (Ya n.kids)]:=by
 unfold atV at h;split at h
 ·rename_i k op t u own' kids;cases hk:aoV kids with
  |none=>rw[hk] at h;cases h
  |some ks=>
   rw[hk,ah] at h;split at h
   ·cases h;obtain rfl:=aqt kids ks hk;exact⟨t,u,own',rfl,rfl,by assumption,rfl⟩
   ·cases h
 ·cases h
def agV:∀(rs:au) (l:List Nk),aav rs=some l->rs.length=l.length/\∀(i:Nat) n,l[i]? =some n->∃r,rs[i]? =some r/\atV r=some n
 |[],l,h=>by simp only[aav,kX] at h;subst h;exact⟨rfl,λi n hn=>by simp at hn⟩
 |r::rs,l,h=>by
  rw[aav] at h;cases hd:atV r with
  |none=>rw[hd] at h;cases h
  |some k=>
   rw[hd,ah] at h;cases hds:aav rs with
   |none=>rw[hds] at h;cases h
   |some l'=>
    rw[hds] at h;cases h;obtain⟨h1,h2⟩:=agV rs l' hds;refine⟨by simp[h1],λi n hn=> ?_⟩;cases i with
    |zero=>simp only[List.getElem?_cons_zero,kX] at hn;subst hn;exact⟨r,rfl,hd⟩
    |succ i=>simp only[List.getElem?_cons_succ] at hn|-;exact h2 i n hn
def OA{h:View}{s:Nat}:∀{rs:au} {b o i:Nat} {r:Row},sJ h s rs b o->rs[i]? =some r->r.length=s/\BL h r b (o+i * s)
 |[],b,o,i,r,q,hi=>by simp at hi
 |r'::rs,b,o,i,r,q,hi=>by
  simp only[sJ] at q;cases i with
  |zero=>simp only[List.getElem?_cons_zero,kX] at hi;subst hi;simp only[Nat.zero_mul,Nat.add_zero];exact⟨q.1,q.2.1⟩
  |succ i=>simp only[List.getElem?_cons_succ] at hi;obtain⟨h1,h2⟩:=OA q.2.2 hi;refine⟨h1, ?_⟩;rw[show o+(i+1) * s=o+s+i * s by rw[Nat.succ_mul];omega];exact h2
def Rx{w:World}{U Y:Nat->Prop}{b o:Nat}{v:Value}(h:view w U Y b o=some v):w.cell? ⟨b,o,none⟩=some v/\b<w.heap.size:=by
 unfold view at h;split at h
 ·refine⟨h, ?_⟩;unfold World.cell? at h;cases ho:w.heap[b]? with
  |none=>simp[ho] at h
  |some o=>exact(Array.getElem?_eq_some_iff.1 ho).1
 ·cases h
def aCr{w:World}{U Y:Nat->Prop}{own:Bool}{ks:List Int}{v:Value}(h:ro (view w U Y) (.sl own 1 (Ya ks)) v):aeF w.heap.size w v ks:=by
 simp only[ro] at h;obtain⟨a,cap,rfl,hc,hr⟩:=h;have hl:(Ya ks).length=ks.length:=by simp[Ya]
 refine⟨a,cap,by rw[hl],λhz=> ?_⟩;obtain⟨b,o,rfl,hrr⟩:=hr (by intro e;apply hz;simpa[Ya] using e);have get:∀j,j<ks.length->w.cell? ⟨b,o+j,none⟩=some (.int .i64 (ks[j]?.getD 0))/\b<w.heap.size:=by
  intro j hj;have e:(Ya ks)[j]? =some [D.int .i64 (ks[j]?.getD 0)]:=by simp[Ya,hj]
  obtain⟨_,h2⟩:=OA hrr e;simp only[BL,Nat.mul_one] at h2;obtain⟨⟨v,hv,hv2⟩,_⟩:=h2;simp only[ro] at hv2;subst hv2;exact Rx hv
 have hpos:0<ks.length:=by
  cases ks with
  |nil=>exact absurd rfl hz
  |cons _ _=>simp
 exact⟨b,o,rfl,(get 0 hpos).2,λj hj=>(get j hj).1⟩
def azh{w:World}{U Y:Nat->Prop}{own:Bool}{rows:au}{l:List Nk}{v:Value}(hd:aav rows=some l)(h:ro (view w U Y) (.sl own 5 rows) v):avy w.heap.size w v l:=by
 simp only[ro] at h;obtain⟨a,cap,rfl,hc,hr⟩:=h;obtain⟨hl,hg⟩:=agV rows l hd;refine⟨a,cap,by rw[hl],λhz=> ?_⟩;obtain⟨b,o,rfl,hrr⟩:=hr (by intro e;subst e;simp at hl;exact hz (List.length_eq_zero_iff.1 hl.symm));have get:∀i n,l[i]? =some n->azc w.heap.size w b (o+i * 5) n/\b<w.heap.size:=by intro i n hn;obtain⟨r,hri,hdk⟩:=hg i n hn;obtain⟨_,h2⟩:=OA hrr hri;obtain⟨t,u,own',e1,e2,_,rfl⟩:=aqu hdk;simp only[BL] at h2;obtain⟨⟨v0,h0,r0⟩,⟨v1,h1,r1⟩,⟨v2,h2,r2⟩,⟨v3,h3,r3⟩,⟨v4,h4,r4⟩,_⟩:=h2;simp only[ro] at r0 r1 r2 r3;subst r0 r1 r2 r3;exact⟨⟨v4,(Rx h0).1,(Rx h1).1,by rw[e1];exact(Rx h2).1,by rw[e2];exact(Rx h3).1,(Rx h4).1,aCr r4⟩,(Rx h0).2⟩
 have hpos:∃n,l[0]? =some n:=by
  cases l with
  |nil=>exact absurd rfl hz
  |cons n _=>exact⟨n,rfl⟩
 obtain⟨n0,hn0⟩:=hpos;exact⟨b,o,rfl,(get 0 n0 hn0).2,λi n hn=>(get i n hn).1⟩
def atW{rows:au}{l:List Nk}(hd:aav rows=some l):∀n,n∈l->n.kids.length<=1048576:=by intro n hn;obtain⟨i,hi⟩:=List.mem_iff_getElem?.1 hn;obtain⟨r,_,hdk⟩:=(agV rows l hd).2 i n hi;obtain⟨_,_,_,_,_,h,_⟩:=aqu hdk;exact h
def ah0{H:Heap}{h:View}:∀(st:List Int) (cs:List Value),cs=st.map (Value.int .i64)++cs.drop st.length->jc H h 1 (Ya st) cs []
 |[],cs,e=>rfl
 |x::st,cs,e=>by
  cases cs with
  |nil=>simp at e
  |cons c cs=>simp only[zmc,zca,GX,List.drop_succ_cons,List.cons.injEq] at e;obtain⟨rfl,e⟩:=e;simp only[Ya,zmc,jc];refine⟨rfl,[],[],rfl, ?_,ah0 st cs e⟩;simp only[jY];exact⟨_,_,[],[],rfl,rfl,⟨rfl,rfl⟩,rfl⟩
def al5{X:Ctx}(hP:X.P=Tryz.prog)(hm:Ox X.U4 98 0=0)(fn:Func)(args:List V)(cells:List Cell)(rows:au)(outs:List Cell)(hf:X.P.funcs[98]? =some fn)(h:Prim.lK args cells=some (rows,outs))
  (base:Nat) (U:Nat->Prop) (w:World) (gargs lX:List Value) (N1 N2:List Nat) (hG:Given X base U w 98 args cells gargs lX N1 N2):
  Calls X.P 98 gargs.toArray w λe w'=>∃gs M1 M2,e=.returned (agH gs)/\Did X.P U w w' (N1++N2) fn.resultTypes.toList cells outs lX rows gs M1 M2:=by
 unfold Prim.lK at h;split at h
 ·rename_i own rws;cases hs:M.lK rws with
  |none=>rw[hs] at h;cases h
  |some r=>
   rw[hs] at h;cases h;rw[hP] at hf;have hfn:fn.resultTypes.toList=[58,4]:=by rw[Tryz.func98] at hf;cases hf;rfl
   have ha:=hG.args;simp only[VB,hm] at ha;obtain⟨v0,gs',n1,n2,rfl,rfl,⟨rfl,hv0⟩,rfl,rfl⟩:=ha;have hc:=hG.cells;obtain⟨rfl,rfl⟩:=hc;simp only[aZ] at hv0;unfold M.lK at hs;cases hd:aav rws with
   |none=>rw[hd] at hs;cases hs
   |some l=>
    rw[hd,ah] at hs;split at hs
    ·rename_i hlen;have hN:=azh hd hv0;have hN':=hN;obtain⟨a,cap,rfl,_⟩:=hN';have hk:=atW hd;have hcall:=callsIn_wide.1 (axp w a cap l ak (λn hn=>by have:=hk n hn;omega) hN);rw[hP];refine hcall.mono ?_;rintro e w' ⟨hbel,g,bb,rfl,hres⟩;rw[hfn];have hkeep:Keep [] w w':=⟨hbel.os,hbel.tape,hbel.output,hbel.size,λb hb _=>hbel.block b hb⟩
     rcases hres with⟨hno,rfl,rfl⟩|⟨st,hst,rfl,hblk,rfl⟩
     ·rw[hno] at hs;cases hs;refine⟨[.slice none 0 0,.bool false],[],[],rfl,hkeep,by simp,λb hb=>by simp at hb,rfl,⟨rfl,rfl⟩, ?_⟩;simp only[XT];refine⟨_,_,_,_,[],[],rfl,rfl,rfl,(Ua (by kernel_rfl)).2 ⟨[.slice none 0 0], ?_, ?_,rfl⟩,_,_,_,_,[],[],rfl,rfl,rfl,(Ua (by kernel_rfl)).2 ⟨[.bool false], ?_, ?_,rfl⟩,rfl,rfl,rfl⟩
      ·rw[Vm.valOf,if_neg (by intro e;revert e;rw[show QW Tryz.prog 58=false by kernel_rfl];simp)]
      ·simp only[jY];exact⟨_,_,[],[],rfl,rfl,.inl ⟨rfl,rfl,rfl⟩,rfl⟩
      ·rw[Vm.valOf,if_neg (by intro e;revert e;rw[show QW Tryz.prog 4=false by kernel_rfl];simp)]
      ·simp only[jY];exact⟨_,_,[],[],rfl,rfl,⟨rfl,rfl⟩,rfl⟩
     ·rw[hst] at hs;cases hs;have hsl:st.length=l.length:=by
       unfold uK at hst;split at hst
       ·have:=YX _ _ _ hst;simpa using this
       ·cases hst
      have hlt:w.heap.size+2<w'.heap.size:=(Array.getElem?_eq_some_iff.1 hblk).1;refine⟨[.slice (some ⟨w.heap.size+2,0,none⟩) l.length l.length,.bool (st[l.length - 1]?.getD 0==0)],[],[w.heap.size+2],rfl,hkeep,by simp,λb hb=> ?_,rfl,⟨rfl,rfl⟩, ?_⟩
      ·simp at hb;subst hb;exact⟨.inr ak,hlt⟩
      ·simp only[XT];refine⟨_,_,_,_,[w.heap.size+2],[],rfl,rfl,rfl,(Ua (by kernel_rfl)).2 ⟨[.slice (some ⟨w.heap.size+2,0,none⟩) l.length l.length], ?_, ?_,rfl⟩,_,_,_,_,[],[],rfl,rfl,rfl,(Ua (by kernel_rfl)).2 ⟨[.bool (st[l.length - 1]?.getD 0==0)], ?_, ?_,rfl⟩,rfl,rfl,rfl⟩
       ·rw[Vm.valOf,if_neg (by intro e;revert e;rw[show QW Tryz.prog 58=false by kernel_rfl];simp)]
       ·simp only[jY];refine⟨_,_,[w.heap.size+2],[],rfl,rfl,.inr ⟨w.heap.size+2,l.length,Q5 l.length st,3,[], ?_,by simp[Ya,hsl],hblk, ?_, ?_,rfl⟩,rfl⟩
        ·simp[Ya,hsl]
        ·rw[aeG ak,Nat.mul_one]
        ·refine ah0 st _ ?_;have:l.length - st.length=0:=ak;simp[Q5,this]
       ·rw[Vm.valOf,if_neg (by intro e;revert e;rw[show QW Tryz.prog 4=false by kernel_rfl];simp)]
       ·simp only[jY];exact⟨_,_,[],[],rfl,rfl,⟨rfl,rfl⟩,rfl⟩
    ·cases hs
 ·cases h
end Go.Proofs.YtflhkdjglihbmaaGreatDoor
namespace Go.Proofs.YtflhkdjglihbmaaGreatDoor
open Go Go.Vm
def G7:Row:=[.str [66,69,71,73,78],.str [69,78,68],.str [102,117,110,99,116,105,111,110],.str [105,102],.str [101,108,115,101],.str [119,104,105,108,101],.str [102,111,114],.str [100,111],.str [98,114,101,97,107],.str [99,111,110,116,105,110,117,101],.str [110,101,120,116],.str [101,120,105,116],.str [114,101,116,117,114,110],.str [100,101,108,101,116,101],.str [105,110],.str [112,114,105,110,116],.str [112,114,105,110,116,102]]
def VP:Row:=[.str [123],.str [125],.str [40],.str [41],.str [91],.str [93],.str [44],.str [59],.str [43,61],.str [45,61],.str [42,61],.str [47,61],.str [37,61],.str [94,61],.str [124,124],.str [38,38],.str [33,126],.str [61,61],.str [60,61],.str [62,61],.str [33,61],.str [43,43],.str [45,45],.str [62,62],.str [61],.str [43],.str [45],.str [42],.str [47],.str [37],.str [94],.str [33],.str [62],.str [60],.str [124],.str [63],.str [58],.str [126],.str [36]]
def OX:Row:=[.str [97,116,97,110,50],.str [99,108,111,115,101],.str [99,111,115],.str [101,120,112],.str [103,115,117,98],.str [105,110,100,101,120],.str [105,110,116],.str [108,101,110,103,116,104],.str [108,111,103],.str [109,97,116,99,104],.str [114,97,110,100],.str [115,105,110],.str [115,112,108,105,116],.str [115,112,114,105,110,116,102],.str [115,113,114,116],.str [115,114,97,110,100],.str [115,117,98],.str [115,117,98,115,116,114],.str [115,121,115,116,101,109],.str [116,111,108,111,119,101,114],.str [116,111,117,112,112,101,114]]
def M.strings_Contains(s t:aC):Option Bool:=match t with
 |[c]=>some (decide (0<=Lib.indexByte s c))
 |_=>none
def Prim.strings_Contains(a:List V)(c:List Cell):Option (au×List Cell):=match a,c with
 |[.d (.str s),.d (.str t)],[]=>(M.strings_Contains s t).map λr=>([[.bool r]],[])
 |_,_=>none
def M.strings_IndexByte(s:aC)(c:Int):Option Int:=some (Lib.indexByte s (UInt8.ofNat c.toNat))
def Prim.strings_IndexByte(a:List V)(c:List Cell):Option (au×List Cell):=match a,c with
 |[.d (.str s),.d (.int .u8 b)],[]=>(M.strings_IndexByte s b).map λr=>([[.int .i64 r]],[])
 |_,_=>none
abbrev oV{R:Type}(x r:au)(n:Nat)(k:au->Option R):Option R:=bif((x.length+r.length) * n).ble 140737488355328 then(bif(x.length+r.length).ble 140737488355328 then k (x++r) else none) else none
def aTN(r:Int×Int×aC×au×Int):Row:=[D.int .i64 r.1,D.int .i64 r.2.1,D.str r.2.2.1,D.sl false 5 (aB r.2.2.2.1),D.int .i64 r.2.2.2.2]
def aTO(r:Int×Int×aC×au×Int):Int×Int×aC×au×Int:=(r.1,r.2.1,r.2.2.1,aB r.2.2.2.1,r.2.2.2.2)
def JY{R:Type}(n:Nat)(x:Row)(k:Int->Int->aC->aC->au->Option R):Option R:=(jD .i64 x 0).bind λa=>(jD .i64 x 1).bind λb=>(cStr x 2).bind λc=>(cStr x 3).bind λd=>(cSl n x 4).bind λe=>k a b c d e
abbrev ng{A B C D E F G:Type}(f:A->B->C->D->E->G)(p:A×B×C×D×E×F):G:=f p.1 p.2.1 p.2.2.1 p.2.2.2.1 p.2.2.2.2.1
abbrev iY(n:Int):V:=V.d (D.int .i64 n)
abbrev ou(b:Bool):V:=V.d (D.bool b)
abbrev qU(s:aC):V:=V.d (D.str s)
abbrev ET(n:Nat)(r:au):V:=V.d (D.sl false n r)
def yJ:(∀(R:Type) (x r:au) (n:Nat) (k:au->Option R),oV x r n k=bif((x.length+r.length) * n).ble 140737488355328 then(bif(x.length+r.length).ble 140737488355328 then k (x++r) else none) else none)/\(∀r,aTN r=[D.int .i64 r.1,D.int .i64 r.2.1,D.str r.2.2.1,D.sl false 5 (aB r.2.2.2.1),D.int .i64 r.2.2.2.2])/\(∀r,aTO r=(r.1,r.2.1,r.2.2.1,aB r.2.2.2.1,r.2.2.2.2))/\(∀(R:Type) (n:Nat) (x:Row) (k:Int->Int->aC->aC->au->Option R),JY n x k=(jD .i64 x 0).bind λa=>(jD .i64 x 1).bind λb=>(cStr x 2).bind λc=>(cStr x 3).bind λd=>(cSl n x 4).bind λe=>k a b c d e):= ⟨λ_ _ _ _ _=>rfl,λ_=>rfl,λ_=>rfl,λ_ _ _ _=>rfl⟩
noncomputable section
variable {R:Type}
def kd:List Nat->List (List Nat)->List (List Nat)
 |_,[]=>[]
 |p,l::r=>match l with
  |[]=>[]::kd [] r
  |k::l=>(p.take k++l)::kd (p.take k++l) r
def kp3:=[[0],[0,11],[2],[3],[3,4,5],[3,4,5,6,7],[3,4,5,6,7,26],[2],[3,4,5,8,9],[3,4,5,48],[2],[3,4,5,51],[2],[2]]
def kp4:=[[0],[2]]
def kp5:=[[0],[2]]
def kp6:=[[0,3],[3,4,5],[3,4,5,13],[2,3],[2,3]]
def kp7:=kd [] [[0,0,3],[2,4],[3,11],[0,2,3],[0,0,3,4,5],[4,6],[5,17],[5,22],[5],[5,35],[5],[3,6,7],[5,46],[0,2,3],[0,0,3,4,6,7,52],[0,2,3],[0,0,3,4,6,7],[3,5,6,7],[5],[0,2,3]]
def kp8:=kd [] [[0,0,3],[2,4],[3,12],[0,2,3],[0,0,3,5,6],[4],[4,33],[4],[4],[4],[4,52],[0,2,3],[0,3,6],[2,7],[3,70],[0,2,3],[2]]
def kp9:=kd [] [[0,0,1],[2,10],[0,4],[0,0,1,5],[3,14],[3],[3,80],[0,4],[1]]
def aTP:=[[0],[0,5],[2],[2]]
def aTQ:=[[0],[2]]
def aTR:=[[0],[2]]
def aTS:=[[0],[0,4],[0,4,5],[2],[0,11],[2],[2]]
def aTT:=kd [] [[0,0],[1,3],[2,4],[3,15],[3],[3],[0,2]]
def aTU:=[[0,3],[0,3,6],[2,3],[2,3]]
def aTV:=[[0],[2]]
def aTW:=[[0,1],[0,1,12],[4],[4]]
def aTX:=kd [] [[0,0,1,2,6],[4,7],[5,8],[6],[2,6,8,11,12],[6,26],[0,6],[0,0,1,6,8,12],[4,9],[2,2,6,7,8,33],[0,6],[0,0,1,2,6,7,8,38],[2,6,8,9],[5,51],[5],[5],[2,2,6,7,8,55],[2,6,8,9],[5],[2,2,6,7,8,66],[2,6,8,9],[5],[3,7,8,73],[3,8,9],[5],[4,83],[0,6,8,10],[3,95],[1],[1],[0,0,1,6,8,9,99],[0,6],[1,8],[1]]
def aTY:=kd [] [[0,0],[0,3],[1,4],[2],[2],[2],[2],[2],[2],[2],[0,4],[0,2],[1]]
def aTZ:=[[0,2],[0,2,6],[2],[0,2,3],[0,2,3,11],[2],[2]]
def aT0:=[[0],[0,12],[0]]
def aT1:=kd [] [[0,0],[1,3],[2,10,11,12],[5,13],[2,5,10,11,12],[2,10,11,12],[5],[0,3],[0,2]]
def aT2:=kd [] [[0,0,2],[2,5],[3,6],[2],[0,2],[0,0,2,5,19],[2],[0,2],[0,0,2,5,32],[2],[0,2],[0,0,2,43],[0,2],[0,0,2,3],[3,64],[3],[3],[3],[3,93],[0,2,3],[1],[0,0,2,3,107],[0,2,3],[1]]
def aT3:=[[0,1],[0,1,5],[4],[0,15],[4],[4]]
def aT4:=[[1,2],[1,2,3],[2],[2,8],[2],[2]]
def aT5:=[[1],[2]]
def aT6:=kd [] [[0,0,1],[2,10],[0,4],[0,0,1,5],[3,14],[3],[3,25],[0,4],[1]]
def aT7:=[[0,1,2],[6]]
def aT8:=kd [] [[0,0],[1,12],[0,2],[0,0,3],[2,16],[2],[2,24],[0,2],[0,0,3,4],[3,32],[3],[3,53],[0,2],[1]]
def aT9:=kd [] [[0,0],[1,9],[0,2],[0,0,10,11,12],[4,13],[1,4,10,11,12],[5,18],[0,2],[0,0,4,10,11,12,20,21,22],[8,23],[2,5,6,10,11,12,20,21,22],[2,10,11,12,20,21,22,35],[0,2],[0,0,4,10,11,12,20,21,22],[1,10,11,12],[0,2]]
def aUa:=[[0,1],[0,1,10],[4],[0,1,12],[4],[0,1,5],[0,1,5,6],[0,1,5,6,7],[1,5,6,7,8],[4]]
def aUb:=[[0,1],[0,1,8],[4],[0,1,5],[0,1,5,16],[0,1,5,16,17],[4],[0,1,5,16,27],[4],[0,1,5,42],[4],[4]]
def aUc:=kd [] [[0,0],[1,3],[2,4],[3,8],[3],[3],[0,2]]
def aUd:=[[0],[0,3],[0,3,8],[0,3,8,9],[2],[0,3,14],[2],[2]]
def aUe:=kd [] [[0,0,1,2,7],[4,8],[5,14],[5,15],[5],[5,23],[5],[2,7,8,9],[5,43],[0,6,7],[0,0,1,7,8,9],[2,2,7,8],[0,6,7]]
def aUf:=[[0],[2]]
def aUg:=kd [] [[0,0,1],[2,9],[0,4],[0,0,1,5],[3,16],[3,6],[2,6,29],[0,4],[0,0,1,5],[1,5,33],[0,4],[0,0,5,43],[2,7],[3,55],[3],[3,62],[0,4],[1]]
def aUh:=[[0,1],[4]]
def aUi:=[[0,1],[1,5],[5,12],[4],[4]]
def aUj:=[[0],[2]]
def aUk:=[[0,1,2,6],[0,2,6,7],[0,2,6,7,14],[6,7],[0,2,6,7,23],[6,7],[6,7,28],[6,7],[6]]
def aUl:=[[0,1],[0,1,9],[4],[0,1,13],[0,1],[4]]
def aUm:=[[0],[0,3],[0,3,7],[0,3],[0,3,15],[2],[2]]
def aUn:=kd [] [[0,0,1],[2,6],[3,7],[4,8],[5,9],[6,15],[6],[6,10],[7,56],[3,8,9,10],[3,7,8,9],[0,4,5]]
def aUo:=kd [] [[0,0],[1,9],[0,2],[0,0,3],[2,10,11,12],[5,13],[2,4,5,10,11,12],[4,6,10,11,12],[8,21],[2,5,6,10,11,12],[7,28],[0,2],[0,0,3,5,6,10,11,12,32],[0,2],[0,0,3,5,10,11,12,40],[0,2],[0,0,3,5,10,11,12,52],[1,5,10,11,12,52],[0,2],[0,0,3,10,11,12],[5],[0,2]]
def aUp:=kd [] [[0,0],[1,3],[0,3,6,7,8],[4,9],[1,4,5,6,7,8],[6,13],[2,6,7,8],[5,19],[5],[5,27],[0,2],[0,3,6,7,8],[0,2]]
def aUq:=[[0,6],[0,8],[0,8,9],[0,11],[0],[0]]
def aUr:=[[0],[0,12],[2],[2]]
def aUs:=kd [] [[0,0,2],[2,3],[3],[3],[3,18],[3],[3],[3],[3],[0,2,3],[1]]
def aUt:=kd [] [[0,0,2],[2,3],[3,12],[0,2,3],[1],[0,0,2,3],[3],[3,31],[3,36],[3],[3,53],[3,57],[3],[3],[3],[3],[3],[0,2,3],[1]]
def aUu:=kd [] [[0,0,3,4],[3,5],[4,25],[0,4],[0,0,3,4,5,6],[5],[0,4,5,6,7],[1]]
def aUv:=[[0,5],[]]
def aUw:=kd [] [[0,1],[1,3],[0,3,7,8,9],[4,10],[1,5,7,8,9],[1,7,8,9],[4],[0,2]]
def aUx:=kd [] [[0,1],[1,3],[0,3,7,8,9],[4,10],[1,5,7,8,9],[1,7,8,9],[4],[0,2]]
def aUy:=kd [] [[0,1,2],[2,5],[1,5,18,19,20],[5,21],[2,7,18,19,20],[2,18,19,20],[5],[5],[0,4]]
def aUz:=[[0],[0,8],[2],[0,3,4],[2]]
def aUA:=kd [] [[0,0],[1,9],[0,2],[0,0,3],[2,4],[3,14],[3],[3,5],[4,6],[5,24],[5],[5],[3],[0,2]]
def aUB:=[[1],[1,3,4],[1,3,4,5],[2]]
def aUC:=kd [] [[0,1,2,3],[3,7],[4,8],[5,18],[6,19],[7],[0,6],[0,1,2,3,7,8,18,24],[0,6],[0,1,2,3,7,8,18,36],[0,6],[0,1,2,3,7,8,18,51],[0,6],[0,1,2,3,7,8,18,66],[0,6],[0,1,2,3,7,8,18,81],[0,6],[0,1,2,3,7,8,18,100],[7],[7],[0,6],[0,1,2,3,7,8,18,105],[0,6],[0,1,2,3,7,8,18,109],[0,6],[0,1,2,7,8,18,145],[0,6],[0,2,7,8,18,160],[0,6],[0,2,174],[0,6],[1]]
def aUD:=[[0],[4],[2]]
def aUE:=kd [] [[0,1],[1,3],[0,2],[0,1,3,5],[2],[2],[2,15],[2],[2,29],[2],[2,35],[2],[0,2]]
def aUF:=kd [] [[0,1,2,3],[3,7],[4,8],[5,16],[6,17],[7],[0,6],[0,1,2,3,7,8,16,22],[0,6],[0,1,2,3,7,8,16,38],[7],[0,2,8],[0,1,2,3,7,8,16,43],[0,2,7,50],[0,6],[0,2,8],[0,1,2,3,7,8,16,52],[0,2,8],[1,3,7,8,16,56],[6],[6],[1,8],[1,3,7,8,16,60],[0,6],[0,2,3,7,8,16,64],[1,8],[1,3,7,8,16,72],[1,8],[1,7,8,16,80],[1,83],[0,6],[0,2,8],[2,86],[0,6],[0,2,94],[0,6],[1]]
def aUG:=[[0,2],[2]]
def aUH:=[[0],[0],[0,3],[0,3,34],[0,3],[3],[2]]
def aUI:=kd [] [[0,0,1],[2,5],[3,6],[1,5,6,7],[4,17],[4],[4,8],[5,23],[5],[5,27],[5],[4],[0,4]]
def aUJ:=[[0,1],[4]]
def aUK:=[[0],[0,3],[0,3,4],[0,3,4,14],[0,3,4,14,15],[2],[0,3,4,14,22],[2],[0,3,4,14,39],[2],[0,3,4,14,42],[2],[3,4,53],[2],[2]]
def aUL:=kd [] [[0,0],[1,3],[2,4],[3,8],[3],[3,24],[3],[3],[0,2]]
def aUM:=kd [] [[0,0,1],[2,5],[1,5,6],[3,15],[3],[3,7],[4,20],[4],[4,8],[3,8,30],[4],[4,54],[4],[4],[4],[4,68],[4],[4],[3],[2,89],[0,5],[0,4]]
def aUN:=[[0],[2]]
def aUO:=[[0,1],[0,1,10],[4],[4]]
def aUP:=kd [] [[0,0,1,2,6],[4,7],[5,9],[2,6,11,12],[3,7,8],[2,2,6,7,9,27],[2,6,7,8],[2,2,6,7,9,32],[2,6,7,8],[5,10],[6,42],[5],[2,2,6,7,9,46],[2,6,7,8],[2,2,6,7,9,56],[2,6,7,8],[4,9,62],[4,8],[4,73],[4,8],[5,83],[0,6],[0,0,1,6,7,8,93],[0,6],[1]]
def aUQ:=[[0,1,2],[6]]
def aUR:=[[0,1],[0,1,8],[0,1],[4]]
def aUS:=kd [] [[0,0,1,2],[3,12],[0,6],[0,0,2,7],[3,18],[3],[3,24],[4,25],[0,6],[0,0,2,7,24,30],[0,6],[0,0,2,7,32],[3],[3,39],[0,6],[1]]
def aUT:=[[0],[3],[3,8],[2],[2]]
def aUU:=[[0],[2]]
def aUV:=[[0],[2]]
def aUW:=[[],[0]]
def aUX:=[[1],[1,5],[2],[1,7],[1,7,8],[2],[1,7,20],[2],[1,7,29],[2],[1,7,38],[2],[1,7,47],[1,7,47],[2],[1,53],[2],[2]]
def aUY:=kd [] [[0,0],[0,3],[1,4],[2],[2],[2],[2],[2],[2],[2],[0,4],[0,2],[1]]
def aUZ:=[[0],[2]]
def aU0:=[[0],[2]]
def aU1:=[[0,1],[0,14],[],[4],[],[4]]
def aU2:=kd [] [[0,0,2],[2,3],[3,10],[2,4],[3,17],[0,2,4],[1],[0,0,2,3,10,21],[0,2],[0,0,2,3,10,25],[5],[5],[3,25],[3],[2,37],[3,38],[0,2],[0,0,2,37,42],[2,5],[0,2],[0,0,2,51],[2,6],[3],[3],[3,7],[4,65],[0,2,6,7],[1],[1]]
def aU3:=[[0],[0,3],[3],[2]]
def aU4:=[[0],[0,11],[],[2],[2]]
def aU5:=kd [] [[0,0,3,4],[3,5],[4,19],[0,4],[0,0,3,4,5],[4,6],[5],[5,36],[0,4],[1,5,6,7],[1]]
def aU6:=[[0],[2]]
def aU7:=[[0],[2]]
def aU8:=kd [] [[0,0],[1,4],[2,5],[3,12],[3],[3,6],[4,7],[5,24],[5],[5,41],[0,2,3],[0,0,4,5,6,7],[3],[0,2,3]]
def aU9:=kd [] [[0,1],[1,6],[2,7],[3],[0,2,3],[0,1,6,10],[3],[3],[0,2,3],[0,1,6,14],[3],[3],[3],[3],[3],[3],[3],[0,2,3],[0,1,6,23],[3],[3],[3],[0,2,3],[0,1,6,28],[0,2,3],[0,1,6,30],[1,4],[0,4,36],[0,2,3],[2],[0,1,6,40],[3],[0,2,3],[0,1,6,43],[0,2,3],[0,1,6,45],[0,2,3],[0,1,6,47],[3],[0,2,3],[0,1,6,53],[0,2,3],[0,1,6,63],[0,2,3],[0,73],[0,2,3],[2]]
def aVa:=[[1],[1,4],[1,4,5],[1,4,5],[2],[1,4,16],[2],[1,4,31],[2],[1,4,36],[2],[1,4,41],[2],[1,4,46],[2],[1,51],[2],[2]]
def aVb:=[[1],[1,4],[1,4,5],[1,4,5],[1,4,5],[1,4,5],[1,4,5],[1,4,5],[2],[1,4,20],[2],[1,4,31],[2],[1,4,42],[2],[1,4,53],[2],[1,4,64],[2],[1,4,74],[2],[1,84],[2],[2]]
def aVc:=[[0],[2]]
def aVd:=[[0],[2]]
def aVe:=[[0],[2]]
def aVf:=kd [] [[0,0,2,3,9,30],[4,13,30],[0,2,3],[0,0,2,3,4,9,30],[5,17,18,19,30],[8,20,30],[4,5,6,9,17,18,19,30],[6,7,9,17,18,19,30],[5,7,9,17,18,19,28,30],[12],[12,37],[0,2,3],[0,0,2,3,4,5,7,9,17,18,19,28,30],[4,9,17,18,19,30],[9],[0,2,3]]
def aVg:=[[0],[2]]
def aJV:=[[1,2],[1,2,4],[1,2,4,5],[2],[1,2,4,14],[1,2,4,14],[1,2,4,14],[2],[1,2,4,31],[1,2,4,31],[2],[1,2,4,41],[2],[1,2,4,50],[2],[1,2,4,59],[2],[1,2,4,68],[1,2,4,68],[2],[1,2,4,78],[2],[1,2,4,97],[2],[1,2,107],[2],[2]]
def aJW:=[[0],[2]]
def aJX:=kd [] [[0,1,2],[2,3],[3,15],[4,16],[0,2,3],[0,1,2,3,15,20],[3],[3],[3],[0,2,3,42],[2],[0,1,2,3,15,51],[5],[0,2,3],[0,1,2,3,15,55],[0,2,3],[0,1,2,3,15,62],[0,2,3],[0,1,2,3,15,66],[5],[0,2,3],[0,1,2,3,15,71],[0,2,3],[0,1,2,3,15,75],[0,2,3],[0,1,2,3,15,87],[0,2,3],[0,1,2,3,90],[0,2,3],[1]]
def aJY:=kd [] [[0,1,2],[2,3],[3,15],[0,2,3],[0,1,2,3,15,17],[5],[0,2,3],[0,1,2,3,15,22],[3],[0,2,3,31],[2],[2],[0,1,2,3,15,36],[3],[0,2,3,50],[2],[2],[0,1,2,3,55],[0,2,3],[1]]
def aJZ:=[[0],[2]]
def aJ0:=[[0],[2]]
def aJ1:=kd [] [[0,0,1,4],[1,4,5],[3,6],[2,6,23,24,25],[6,26],[3,8,23,24,25],[3,23,24,25],[6],[0,4]]
def aJ2:=kd [] [[0,0,1],[2,5],[3,6],[4,10],[4],[4],[0,4]]
def aJ3:=[[0,3],[5],[4]]
def aJ4:=[[0,1],[0,1,7],[4],[0,1,5],[0,1,5,14],[0,1,5,14,15],[4],[0,1,5,14,19],[4],[0,1,5,14,24],[4],[0,1,5,14,33],[4],[0,1,5,14,43],[4],[0,1,5,14,54],[4],[0,1,5,14,64],[4],[0,1,14,74],[0,1,14,74],[4],[0,1,14,87],[4],[0,1,14,97],[4],[0,1,114],[4],[4]]
def aJ5:=[[0],[0]]
def aJ6:=[[2,3],[2,3,31],[4],[2,3,5],[2,3,5,6],[2,3,5,44],[4],[2,3,51],[4],[2,3,63],[4],[2,8],[4]]
def aJ7:=[[0,2],[0,2,6],[0,2,6,7],[2],[0,2,6,12],[2],[0,2,6,17],[2],[0,2,6,22],[0,2,6,22],[2],[0,2,6,28],[2],[0,2,34],[2,3],[2],[2,4],[2]]
def aJ8:=[[0,1],[4]]
def aJ9:=[[0,1],[4]]
def aKa:=[[0],[2]]
def aKb:=kd [] [[0,0,1],[2,17],[0,4],[0,0,1,5],[1,5,6],[3,27],[3,7],[1,6,7],[1,5,6],[2,40],[0,4],[0,0,5,8],[2,49],[2,9],[3,10],[3,60],[3],[0,5,9,11],[1,11,68],[0,4],[1]]
def aKc:=[[0,1],[4]]
def aKd:=[[0,1],[1,5],[5,12],[4],[4]]
def aKe:=[[0],[2]]
def aKf:=[[0,1],[0,1,9],[4],[0,1,13],[0,1],[4]]
def aKg:=[[0],[0,5,6],[0,5,6,7],[0,3,5,6],[0,5,6,14],[2],[0,5,6],[2]]
def aKh:=[[0,1,2,6],[0,1,2,6,7],[0,1,2,6,7,12],[6],[0,1,2,6,7,21],[6],[1,6,7,27],[6],[6]]
def aKi:=kd [] [[0,0,1],[2,15],[0,4,5],[0,0,1,6,7],[4,16,17],[6,18],[4,8,9,16,17],[8,31],[4,16,17],[6],[0,4,5]]
def aKj:=kd [] [[0,0,1],[2,5],[3,9],[3],[3,17],[0,4],[1]]
def aKk:=[[],[0]]
def aKl:=[[],[0]]
def aKm:=[[0,1],[4]]
def aKn:=[[0],[2]]
def aKo:=[[0],[2]]
def aKp:=[[0],[0,3],[2],[0,6],[2],[0,13],[2],[2]]
def aKq:=kd [] [[0,0,2],[2,3],[3,4],[4,8],[0,2],[0,0,2,3,4,8,15],[6],[3],[0,2],[0,0,2,3,4,8,28],[4],[4,8,31],[4],[4,8,34],[4],[4,8,37],[4],[4,8,40],[4],[2,4,43],[3],[3],[3,65],[3],[0,2,4],[1],[0,0,2,3,4],[2,4,95],[0,2,4],[1]]
def aKr:=kd [] [[0,0,2],[2,3],[2,4],[3,5,6],[5],[5,33],[5,38],[0,2,4],[1],[0,0,2,4],[0,2,4],[1]]
def aKs:=[[0,2],[0,2],[0,2,3],[2,3],[2]]
def aKt:=[[0,2],[0,2],[0,2,9],[2],[0,2,13],[2],[0,2,3],[0,2,3,21],[2,3],[2],[2,3],[2]]
def aKu:=kd [] [[0,0,2],[2],[2,46],[2,3],[3],[3],[3],[0,2,3],[1],[0,0,2,4],[3],[3],[3,5],[4],[4],[4,6],[5],[0,2]]
def aKv:=kd [] [[0,0,3,4],[3,5],[4,18],[4],[4],[4],[0,4]]
def aKw:=kd [] [[0,0],[0,3],[1,4],[2],[2],[2],[2],[2],[2],[2],[2],[2],[2],[2],[2],[2],[2],[2],[0,4],[0,2],[1]]
def aKx:=[[0],[2]]
def aKy:=[[0],[2]]
def aKz:=[[1],[1,3],[1,3,8],[1,3,8,9],[2],[1,3,8,24],[2],[1,3,8,35],[2],[1,3,8,42],[2],[1,8,49],[1,8,49],[2],[1,55],[2],[2]]
def aKA:=[[0],[2]]
def aKB:=[[0],[3],[3,4],[2],[3,6],[2],[3,8],[3,8],[2],[3,11],[3,11],[3,11],[3,11],[3,11],[3,11],[2],[3,18],[2],[3,20],[3,20],[2],[3,23],[3,23],[3,23],[2],[27],[2],[2]]
def aKC:=[[0,1],[4]]
def aKD:=[[0,1],[0,1,5],[0,1,5,6],[0,1,5,6,21],[0,1,5,6],[0,1,5,22],[0,1,5,22,23],[4],[0,1,5,22,33],[4],[0,1,5,22,49],[4],[0,1,5,22,63],[4],[0,1,5,22,78],[4],[0,1,5,22,90],[4],[0,5,22,98],[0,5,22,98],[4],[0,5,22,114],[4],[5,119],[4],[4]]
def aKE:=kd [] [[0,0],[1,8],[0,2,3],[0,0,4],[2,5],[3,13],[3],[3,20],[4,21],[3],[3,20,30],[3],[3,35],[0,2,3],[2]]
def aKF:=[[0,3],[0,3,12],[4],[4]]
def aKG:=[[0],[0,4],[0,4,5],[2],[0,4,11],[2],[0,17],[0,20],[2],[2]]
def aKH:=[[0,1],[0,1,6],[0,1,6,7],[4],[0,1,18],[4],[4]]
def aKI:=kd [] [[0,1,2],[2,5],[3],[3,6],[4,13],[4],[4],[4],[0,4]]
def aKJ:=[[0],[2]]
def aKK:=kd [] [[0,0,1,2,3],[4,9],[1,3,9,10],[4,21],[4],[4],[0,8]]
def aKL:=[[0,1],[4]]
def aKM:=[[0],[2]]
def aKN:=[[0],[2]]
def aKO:=[[0],[2]]
def aKP:=[[0],[2]]
def aKQ:=[[0],[0,3],[2],[0,6],[2],[0,14],[2],[2]]
def aKR:=[[0,1],[0,1,8],[0,1],[4]]
def aKS:=kd [] [[0,0,1,2],[3,12],[0,6],[0,0,2,7],[3,24],[3],[3,27],[0,6],[0,0,2,7,36],[3],[0,6]]
def aKT:=[[0],[2]]
def aKU:=[[0],[3],[3,8],[2],[2]]
def aKV:=[[0,1],[4]]
def aKW:=[[0],[2]]
def aKX:=[[0],[2]]
def aKY:=kd [] [[0,0,1,4],[1,4,5],[3,23],[3],[3,37],[3],[0,4,5],[1]]
def aKZ:=[[0,1],[0,1,5],[0,1,5,14],[5],[4],[0,1,5],[5],[4]]
def aK1:=[[0,1,5,6],[0,5,6,10],[6],[6]]
def aK2:=kd [] [[0,0,3,4],[3,5],[4,18],[4],[4],[4],[0,4]]
def aK3:=[[0,4,5,6],[6]]
def aK4:=[[0],[0,3],[0,3,7],[0,3],[0,3,13],[2],[2]]
def aK5:=kd [] [[0,0,1],[2,7,8],[4,9],[2,5,7,8],[5,16],[0,4],[0,0,1,7,8],[0,4]]
def aK6:=[[0],[0,9],[2],[0,3],[0,3,13],[0,3],[0,3,21],[2],[0,4,5],[2]]
def aK7:=[[0],[2]]
def aK8:=[[1],[2]]
def aK9:=[[1,3,5],[1,3,5,13],[6],[6]]
def aLa:=kd [] [[0,0,1],[2,5],[3,6],[4,13],[4],[4,7],[5],[5,8],[6,29],[6],[6],[4],[0,4]]
def aLb:=[[0,1],[4]]
def aLc:=[[0],[2]]
def aLd:=kd [] [[0,0,3],[2,5],[3,11],[3],[3,27],[3,30],[0,5],[0,0,3,5],[3],[0,4]]
def aLe:=[[0,3,4],[0,3,4,5],[0,3,4,5,18],[4],[0,3,4,5,22],[0,3,4,5,22,23],[4],[0,3,4,5,22,28],[4],[0,3,4,5,22,33],[4],[0,3,4,5,22,38],[4],[0,3,4,5,22,43],[4],[0,3,4,5,22,48],[4],[0,3,4,5,22,53],[4],[0,3,4,5,22,58],[4],[0,3,4,5,22,63],[4],[0,3,4,5,22,68],[4],[0,3,4,5,22,73],[4],[0,3,4,5,22,78],[4],[0,3,4,22,83],[4],[0,3,4,87],[0,4,95],[4],[4],[4]]
def aLf:=kd [] [[0,0,3,4],[3,5,6],[5,26],[4],[4,6],[5,45],[0,4],[0,0,3,4,5,6],[5,65],[5],[5,74],[5],[4],[4,6],[0,4]]
def aLg:=[[1],[1,20],[2],[1,22],[1,22,23],[2],[1,22,34],[1,22,34],[2],[1,22,41],[2],[1,52],[2],[2]]
def aLh:=kd [] [[0,0],[1,4],[2,5],[3,12],[3],[3,6],[4,7],[5,24],[5],[5,41],[0,2,3],[0,0,4,5,6,7],[3],[0,2,3]]
def aLi:=[[2,3],[2,3,5],[4],[2,3,14],[4],[2,3,22],[4],[2,3,35],[4],[2,3,53],[4],[4]]
def aLj:=[[1,3,5],[3,5,7],[3,5,7,8],[3,5,7,8,19],[6],[3,5,7,24],[3,5,7,24,25],[6],[3,5,7,24,30],[3,5,7,24,30],[6],[3,5,7,24,36],[6],[3,5,7,24,50],[6],[3,5,7,24,64],[6],[3,5,7,24,78],[6],[3,5,7,24,103],[3,5,7,9],[3,5,7,9,122],[3,5,7,9],[6],[3,5,7,24,138],[6],[3,5,7,171],[3,5,7,176],[6],[6],[6]]
def aLk:=kd [] [[0,0,1,2],[3,7],[0,2,7,8],[3,9],[4,17],[4],[4],[4],[0,6]]
def aLl:=[[0],[2]]
def aLm:=[[0],[3],[3,4],[3,4],[3,4],[3,4],[3,4],[3,4],[4],[2],[2]]
def aLn:=[[0,2],[2],[2]]
def aLo:=kd [] [[0,0,3,4],[3,5],[4,23],[0,4],[0,0,3,4,5,6],[5],[0,4]]
def aLp:=kd [] [[0,0,3,4],[3,5],[4,28],[0,4],[0,0,3,4,5,6],[5],[0,4]]
def aLq:=kd [] [[0,0,3,4],[3,5],[4,18],[4],[0,4]]
def aLr:=kd [] [[0,0,3,4],[3,5],[4,20],[4,6],[5],[4],[0,4]]
def aLs:=kd [] [[0,0,3,4],[3,5],[4,20],[4,6],[5],[4],[0,4]]
def aLt:=[[0,3,4],[0,3,4,5],[0,3,4,5,24],[4],[0,3,4,5],[4,5,6],[4]]
def aLu:=[[0,3,4],[0,3,4,5],[0,3,4,5,16],[4],[0,3,4,5],[4]]
def aLv:=[[0,2],[0,2,14],[2],[0,2,3],[0,2,3,33],[2],[0,2,3,4],[2,3,4],[2]]
def aLw:=[[0,2],[0,2,3],[0,2,3],[2,3,4],[2]]
def aLx:=[[0,2],[0,2,12],[2],[0,2],[0,2,3],[0,2,3,25],[2,3],[2,3],[2]]
def aLy:=kd [] [[0,0,2],[2,9],[0,2],[0,0,2,3],[3,13],[4,14],[0,2],[0,0,2,3,13,20],[0,2],[0,0,2,3,13,26],[0,2],[0,0,2,3,13,32],[0,2],[0,0,2,3,13,36],[5],[3,4],[2,4,43],[3],[3,52],[0,2],[0,0,2,4,56],[0,2,4],[1],[0,0,2,62],[2],[2,5],[0,2,5],[1],[1]]
def aLz:=kd [] [[0,0],[1,3],[0,3,14,15,16],[4,17],[1,5,14,15,16],[5,20],[1,14,15,16],[1,5,14,15,16,26],[1,14,15,16],[4,32],[0,2],[0,3,14,15,16,41],[4],[0,2]]
def aLA:=[[1],[1,4],[1,4,5],[2],[1,4,7],[2],[1,4,9],[2],[1,4,11],[2],[4,16],[2],[4,18],[4,18],[2],[4,21],[2],[4,23],[4,23],[4,23],[4,23],[4,23],[4,23],[23],[2],[2]]
def aLB:=[[1,2],[1,2,4],[1,2,4,5],[2],[1,2,4,10],[2],[1,2,4,15],[2],[1,2,20],[2],[2]]
def aLC:=[[2,3,4,5],[8]]
def aLD:=[[1,2],[4]]
def aLE:=kd [] [[0,1,3,5,6],[4,26],[0,6],[0,1,3,6,7],[4,40],[0,6],[0,1,3,6,7,40,42],[1,6,7],[0,6,7,46],[2],[0,1,3,6,7,40,48],[1,6,7],[0,6,7,52],[2],[0,1,3,6,7,40,54],[0,6,7,59],[1],[1,7],[0,1,3,6,7,40,62],[4,8,9],[4,9],[0,3,6,7,9,73],[3],[0,6,7],[2,40,80],[2],[2],[2,40,84],[4],[2],[2],[2,89],[2],[2],[2],[1]]
def aLF:=[[0,2],[2]]
def aLG:=[[1,3,5],[1,3,5,19],[6],[1,3,5,43],[6],[7],[6]]
def aLH:=kd [] [[0,1,3,5],[3,7],[4,8],[5,13],[5],[5,17],[5],[5],[0,6]]
def aLI:=kd [] [[0,3,4,5],[3,7],[0,4,7,8],[3,28],[4,29],[0,6],[0,4,7,8,28,36],[3,36],[0,6],[1]]
def aLJ:=kd [] [[0,0,1],[2,5],[3,6],[4,13],[4],[4,7],[5],[5,8],[6,29],[6],[6],[4],[0,4]]
def aLK:=[[0,2],[0,2,3],[0,2,8],[2],[0,2,14],[2],[2]]
def aLL:=kd [] [[0,0,2],[2,3],[3,9],[3],[0,2,3],[1]]
def aLM:=[[0],[3],[3,4],[2],[3,6],[2],[3,8],[3,8],[2],[3,11],[3,11],[3,11],[3,11],[3,11],[3,11],[2],[3,18],[2],[3,20],[3,20],[2],[3,23],[3,23],[3,23],[2],[27],[2],[2]]
def aLN:=[[0],[5],[5,6],[2,3],[5,8],[2,3],[5,10],[2,3],[5,12],[2,3],[5,14],[2,3],[5,16],[2,3],[18],[2,3],[2,3]]
def aLO:=[[1,3,5],[3,5,7],[3,5,7,8],[3,5,7,8,20],[6],[3,5,7,24],[3,5,7,24,25],[6],[3,5,7,24,34],[6],[3,5,7,24,43],[6],[3,5,7,24,52],[6],[3,5,7,24,65],[6],[3,5,7,24,78],[3,5,7,9],[6],[3,5,7,24,102],[6],[3,5,7,24,116],[6],[3,5,7,132],[3,7,10],[3,7,10,146],[7,10],[7,10],[6],[6]]
def aLP:=[[],[0]]
def aLQ:=[[2,3,4,5],[3,9],[8]]
def aLR:=[[1,2],[4]]
def aLS:=kd [] [[0,1,2],[2,5],[3,6],[4,11],[4],[4,15],[4],[4],[0,4]]
def aLT:=kd [] [[0,3,4,5],[3,7],[4,19],[4],[4],[4],[0,6],[0,3,4,5,7,52],[4],[0,6]]
def aLU:List (List (List Nat)):=[[],[],[],kp3,kp4,kp5,kp6,kp7,kp8,kp9,aTP,aTQ,aTR,aTS,aTT,aTU,aTV,aTW,aTX,aTY,aTZ,aT0,aT1,aT2,aT3,aT4,aT5,aT6,aT7,aT8,aT9,aUa,aUb,aUc,aUd,aUe,aUf,aUg,aUh,aUi,aUj,aUk,aUl,aUm,aUn,aUo,aUp,aUq,aUr,aUs,aUt,aUu,aUv,aUw,aUx,aUy,aUz,aUA,aUB,aUC,aUD,aUE,aUF,aUG,aUH,aUI,aUJ,aUK,aUL,aUM,aUN,aUO,aUP,aUQ,aUR,aUS,aUT,aUU,aUV,aUW,aUX,aUY,aUZ,aU0,aU1,aU2,aU3,aU4,aU5,aU6,aU7,aU8,aU9,aVa,aVb,aVc,aVd,aVe,aVf,aVg,aJV,aJW,aJX,aJY,aJZ,aJ0,aJ1,aJ2,aJ3,aJ4,aJ5,aJ6,aJ7,aJ8,aJ9,aKa,aKb,aKc,aKd,aKe,aKf,aKg,aKh,aKi,aKj,aKk,aKl,aKm,aKn,aKo,aKp,aKq,aKr,aKs,aKt,aKu,aKv,aKw,aKx,aKy,aKz,[],aKA,aKB,aKC,aKD,aKE,aKF,aKG,aKH,aKI,aKJ,aKK,aKL,aKM,aKN,aKO,aKP,aKQ,[],aKR,aKS,aKT,aKU,aKV,[],aKW,aKX,aKY,aKZ,aK1,aK2,aK3,aK4,[],aK5,aK6,aK7,aK8,aK9,aLa,[],aLb,[],aLc,aLd,aLe,aLf,aLg,aLh,aLi,aLj,aLk,aLl,[],[],[],aLm,aLn,aLo,aLp,aLq,aLr,aLs,aLt,aLu,aLv,aLw,aLx,aLy,aLz,aLA,aLB,aLC,aLD,aLE,aLF,aLG,aLH,aLI,aLJ,[],aLK,aLL,aLM,aLN,aLO,aLP,aLQ,aLR,aLS,aLT,[],[],[],[],[],[],[],[],[],[],[],[],[],[],[],[],[],[],[],[],[],[],[],[],[]]
def aLV(f:Nat):List Nat:=bif Nat.beq f 55 then[1] else[]
def aVh(f:Nat):List Nat:=([(8,[19,35,39,45,63]),(21,[3,10]),(23,[5,16,29,42,46,51,62,73,78,91,97,109]),(47,[8]),(49,[6,8,16,20,24,30,35,39]),(50,[6,10,18,21,29,40,51,69,71,73,77]),(51,[10,22,28,38]),(52,[3]),(84,[11]),(85,[9,12,19,24,41,45,48,54,56,58,60,67,73]),(87,[9,16]),(88,[10,17,30,32,40]),(131,[6,11,27,53,63,74,92,98]),(132,[8,11,24,31,63]),(133,[5,8,10]),(134,[5,12,15,20,33]),(135,[8,16,48,51,53,56,58,64,66,68,71,73,75,78,80,85]),(136,[8,16,27,31,32]),(168,[14,19,35,39,45]),(169,[8,25,28]),(170,[8,14]),(171,[8,16,27,31,32]),(185,[15,25,42]),(186,[15,20,27,32,37,42,47,52,57,62,67,72,77,82,86,93,97,99,101]),(187,[15,25,35,43,47,50,58,79]),(199,[9,16,20,26,38,39]),(200,[9,16,25,31,43,44]),(201,[8,16,22,23]),(202,[9,17,22,34,35]),(203,[9,17,22,34,35]),(204,[8,27,37]),(205,[7,14,28,29]),(206,[12,16,18,30,36]),(207,[6,15]),(208,[10,14,24,27,29]),(209,[12,17,23,29,35,40,50,56,58,73,75,80]),(222,[10,13,16,19,21]),(223,[5,8,18])]:List (Nat×List Nat)).foldr (λx r=>bif Nat.beq f x.1 then x.2 else r) []
def aVi(f d:Nat):List Nat:=bif mem? d (aVh f) then[] else List.range 200
def aLW(f:Nat):List Nat:=bif Nat.beq f 49 then[3] else[]
def aLX(f:Nat):List Nat:=[]
def aGt(f:Nat):List Nat:=bif Nat.beq f 132 then[47] else[]
noncomputable def U4:Adv:=⟨λf r=>(aLU.getD f []).getD r [],λf=>aLV f,aVi,λt=>(aLW t),λf d=>mem? d (aGt f),λf=>aLX f⟩
theorem zaU:(!true)=false:=rfl
theorem zaV:∀n:Nat,n≤n:=Nat.le_refl
theorem zaW:∀{A B:Type}{l:List A}(f:A->B),(l.map f).length=l.length:=fun f=>List.length_map f
abbrev zat:=au×Int×Bool×au
abbrev zau:=au×Int×Bool×Int×Int×aC×aC×Int×Int×aC×aC×au×au
abbrev zav:=au×Int×Bool×Int×Int×aC×aC×Int×Int×aC×aC×au
abbrev zaw:=Int×aC
abbrev zax:=au×Int×Bool×au×au
abbrev zay:=au×Int×au×Int×Int×aC
abbrev zaz:=au×Int×au×Int×Int×aC×au
abbrev zaA:=au×Int×Int×au×Int×Int×aC×aC
abbrev zaB:=au×Int×Int×au×Int×Int×aC×aC×au
abbrev zaC:=au×Int×Int×au×Int×Bool×Int×Int×aC×aC×au
abbrev zaD:=au×Int×Int×au×Int×Bool×Int×Int×aC×aC×au×au
abbrev zaE:=au×au×Int×Int×Int×Int×aC×aC×Int×Int×aC×aC
abbrev zaF:=au×au×Int×Int×Int×Int×aC×aC×Int×Int×aC×aC×au
abbrev zaG:=au×Int×Bool×Int×Int×aC×aC×au×Bool×au
abbrev zaH:=au×Int×Bool×Bool×Bool×Int×Int×aC×aC×Bool×Int×Int×aC×aC×au×Bool×au
abbrev zaI:=au×Int×Bool×Bool×Bool×Int×Int×aC×aC×Bool×Int×Int×aC×aC×Bool×au×au
abbrev zaJ:=Int×au×Int×Int×au
abbrev zaK:=au×Int×au×au
abbrev zaL:=Bool×au×Int×Bool×Int×Int×aC×aC×Int×Int×aC×aC×au
abbrev zaM:=au×au×Int×Int
abbrev zaN:=au×Bool×au×Int×Bool×Bool×Bool×Int×Int×aC×aC×Bool×Int×Int×aC×aC×Bool×au
abbrev zaO:=au×Int×Int×Int×aC×aC×Int×Int×aC×aC×au×au
abbrev zaP:=Int×Int×aC×aC×au
abbrev zaQ:=au×au×Int×Bool×Bool×Bool×Int×Int×aC×aC×Bool×Int×Int×aC×aC×Bool×au
abbrev zaR:=aC×Int×au×Int×Int
abbrev zaS:=Int×Int×aC×aC×Bool×au×Bool×au×Int×Bool×au
abbrev zaT:=Bool×au×au×Int×Bool×au
abbrev zaa:=Bool->Bool->au->Int->Bool->au->Option zaS
abbrev zab:=au->Bool->Int->Int->Bool->Bool->Bool->Bool->Option (au)
abbrev zac:=au->Int->Bool->au->Option (Int×Int×aC×aC×Bool×au×au×Int×Bool×au)
abbrev zad:=au->Int->Bool->au->Option zaS
abbrev zae:=Int->au->Int->Int->Option zaM
abbrev zaf:=Int->au->Int->Bool->au->Option zaT
abbrev zag:=Int->au->Int->Int->Option (aC×au×Int×Int)
abbrev zah:=Int->Int->aC->aC->au->Option (Int)
abbrev zai:=au->Bool->Int->Option (au)
abbrev zaj:=au->Bool->Int->Int->aC->aC->au->Int->Bool->Bool->Bool->Bool->Option (au)
abbrev zak:=au->Bool->au->Int->Bool->Bool->Bool->Bool->Option (au)
abbrev zal:=au->Bool->au->Option (au)
abbrev zam:=Int->Int->aC->aC->au->au->Option (au)
abbrev zan:=au->Int->Option zaP
abbrev zao:=Bool->Bool->au->Int->Bool->au->Option zaT
abbrev zap:=Int->Int->Int->au->Int->Int->Option zaM
abbrev zaq:=au->Bool->Int->aC->Int->au->Int->Option (au)
abbrev zar:=au->Bool->Int->Int->aC->aC->au->aC->aC->Option (au)
abbrev zas:=Nat->Int->Int->aC->aC->au->Option (Int)
noncomputable def X0:Ctx:=⟨Tryz.prog,U4,λf=>bif Nat.beq f 98 then some Prim.lK else bif Nat.beq f 114 then some Prim.strings_IndexByte else bif Nat.beq f 127 then some Prim.strings_Contains else none,λg=>bif Nat.beq g 1 then some OX else bif Nat.beq g 2 then some G7 else bif Nat.beq g 0 then some VP else none,λg=>bif Nat.beq g 3 then true else false⟩
def fTa(S:fA)(C:∀{R:Type},S.α->(S.ρ->Option R)->Option R)(K:List (FE X0):=[])(L:List (LE X0 S.f):=[])(hn:∀{R:Type} x (k:S.ρ->Option R),C x k=(C x some).bind k:=by intros;exact zbI)
  (hE:∀{R:Type} x (k:List Row->List Cell->Option R),bodyC X0 (kt K) (lt L) S.f (S.p.enc x.1) (S.q.enc x.2) k=C x (λr=>k (S.enc r).1 (S.enc r).2):=by intros;kernel_rfl)
  (hL:loops (codeOf X0.P S.f)=L.map LE.c:=by kernel_rfl) (hd:apart (L.map LE.n)=true:=by kernel_rfl) (hp:X0.ad5 S.f=none:=by kernel_rfl):S.ok X0 λx=>C x some:=fnS C K L hn hE hL hd hp (λ_=>rfl)
abbrev ra:=λn a=>sg n a [] (ρ:=Bool) λr=>([[D.bool r]],[])
abbrev rc:=λn a=>sg n a [] (ρ:=au) λr=>([[D.sl true 5 r]],[])
abbrev re:=λn a=>sg n a [] (ρ:=Int×Bool×Bool×Bool×Bool) λr=>([[D.int .i64 r.1,D.bool r.2.1,D.bool r.2.2.1,D.bool r.2.2.2.1,D.bool r.2.2.2.2]],[])
abbrev rf:=λn a=>sg n a [] (ρ:=au×Bool) λr=>([[D.sl true 1 r.1],[D.bool r.2]],[])
abbrev rg:=λn a=>sg n a [] (ρ:=Int) λr=>([[D.int .i64 r]],[])
abbrev rh:=λn a=>sg n a [] (ρ:=Int×Int) λr=>([[D.int .i64 r.1],[D.int .i64 r.2]],[])
abbrev rj:=λn a=>sg n a [] (ρ:=au) λr=>([[D.sl true 1 r]],[])
abbrev rk:=λn a=>sg n a [] (ρ:=aC) λr=>([[D.str r]],[])
abbrev rl:=λn a=>sg n a [] (ρ:=Int×aC×Int) λr=>([[D.int .i64 r.1,D.str r.2.1,D.int .i64 r.2.2]],[])
abbrev rm:=λn a=>sg n a [] (ρ:=au) λr=>([[D.sl true 4 r]],[])
abbrev rp:=λn a=>sg n a [] (ρ:=au) λr=>([[D.sl true 3 r]],[])
abbrev rq:=λn a=>sg n a [] (ρ:=au×Int×Int) λr=>([[D.sl true 3 r.1],[D.int .i64 r.2.1,D.int .i64 r.2.2]],[])
abbrev rr:=λn a=>sg n a [] (ρ:=Int×Int) λr=>([[D.int .i64 r.1,D.int .i64 r.2]],[])
abbrev rt:=λn a=>sg n a [] (ρ:=au×Int×Int) λr=>([[D.sl true 5 r.1],[D.int .i64 r.2.1,D.int .i64 r.2.2]],[])
abbrev rv:=λn a=>sg n a [] (ρ:=Bool×Bool×Bool×Int×Int) λr=>([[D.bool r.1,D.bool r.2.1,D.bool r.2.2.1,D.int .i64 r.2.2.2.1,D.int .i64 r.2.2.2.2]],[])
abbrev rx:=λn a=>sg n a [] (ρ:=Int×Int×aC×aC×au) λr=>([[D.int .i64 r.1,D.int .i64 r.2.1,D.str r.2.2.1,D.str r.2.2.2.1,D.sl true 5 r.2.2.2.2]],[])
abbrev _root_.Prod.va{A B C D:Type _}(x:A×B×C×D):D:=x.2.2.2
abbrev _root_.Prod.wc{A B C D E F G H I:Type _}(x:A×B×C×D×E×F×G×H×I):I:=x.2.2.2.2.2.2.2.2
abbrev zaX(r:au×Int×Bool×au):=Cell.box 49 [V.d (D.sl false 3 r.1),V.d (D.int .i64 r.2.1),V.d (D.bool r.2.2.1),V.d (D.sl true 1 r.2.2.2)]
abbrev zaY{A:Type}(r:au×Int×Bool×A)(n:Nat):=Cell.box 49 [ET 3 r.1,iY r.2.1,ou r.2.2.1,V.own n 0]
abbrev zaZ:=λn a=>sg n a [cB 67 [pL false 1,pI,pI]] (ρ:=Int×au×Int×Int) λr=>([[D.int .i64 r.1]],[Cell.box 67 [V.d (D.sl false 1 r.2.1),V.d (D.int .i64 r.2.2.1),V.d (D.int .i64 r.2.2.2)]])
abbrev zba:=λn a=>sg n a [cB 67 [pL false 1,pI,pI]] (ρ:=aC×au×Int×Int) λr=>([[D.str r.1]],[Cell.box 67 [V.d (D.sl false 1 r.2.1),V.d (D.int .i64 r.2.2.1),V.d (D.int .i64 r.2.2.2)]])
abbrev zbb:=λn a=>sg n a [cB 67 [pL false 1,pI,pI]] (ρ:=au×au×Int×Int) λr=>([[D.sl true 5 r.1]],[Cell.box 67 [V.d (D.sl false 1 r.2.1),V.d (D.int .i64 r.2.2.1),V.d (D.int .i64 r.2.2.2)]])
abbrev zbc:=λn a=>sg n a [cB 49 [pL false 3,pI,pB,pL true 1]] (ρ:=au×Int×Bool×au) λr=>([],[zaX r])
abbrev zbd:=λn a=>sg n a [cB 49 [pL false 3,pI,pB,pL true 1]] (ρ:=Bool×au×au×Int×Bool×au) λr=>([[D.sl r.1 5 r.2.1]],[zaX r.2.2])
abbrev zbe:=λn a=>sg n a [cB 49 [pL false 3,pI,pB,pL true 1]] (ρ:=Bool×au×Int×Bool×au) λr=>([[D.bool r.1]],[zaX r.2])
abbrev zbf:=λn a=>sg n a [cB 49 [pL false 3,pI,pB,pL true 1]] (ρ:=Int×Int×aC×aC×Bool×au×Bool×au×Int×Bool×au) λr=>([[D.int .i64 r.1,D.int .i64 r.2.1,D.str r.2.2.1,D.str r.2.2.2.1,D.sl r.2.2.2.2.1 5 r.2.2.2.2.2.1,D.bool r.2.2.2.2.2.2.1]],[zaX r.2.2.2.2.2.2.2])
abbrev zbg:=λn a=>sg n a [cB 49 [pL false 3,pI,pB,pL true 1]] (ρ:=aC×au×Int×Bool×au) λr=>([[D.str r.1]],[zaX r.2])
abbrev zbh:=λn a=>sg n a [cB 49 [pL false 3,pI,pB,pL true 1]] (ρ:=Int×Int×aC×aC×Bool×au×au×Int×Bool×au) λr=>([[D.int .i64 r.1,D.int .i64 r.2.1,D.str r.2.2.1,D.str r.2.2.2.1,D.sl r.2.2.2.2.1 5 r.2.2.2.2.2.1]],[zaX r.2.2.2.2.2.2])
abbrev zbi:=[dD 100000 (cB 49 [pL false 3,pI,pB,pO 300003 0]),dD 300000 (cB 80 [pB,pB]),dD 300001 (cB 77 [pI,pI,pS,pS,VL 5,pB]),dD 300002 (cB 77 [pI,pI,pS,pS,pL false 5,pB]),dD 300003 (cA false true 0 1)]
abbrev zbj:=(cA false true 0 1)
abbrev zbk:=[pI,pI,pS,pS,pL false 1]
abbrev zbl:=[dD 0 (pP 100000 0),dD 3 (pP 300000 0),dD 4 (pP 300001 0),dD 5 (pP 300002 0)]
abbrev zbm:=[pP 100000 0,qm [pB,pB]]
abbrev zbn:=(cB 52 [pI,pI,pS,pS,VL 5])
abbrev zbo:=(pOr (IC [dD 0 (pP 100000 0)] [dD 100000 (cB 49 [pL false 3,pI,pB,pO 100001039999 0]),dD 100001039999 zbj]) (IC [dD 0 (pP 100000 0)] [dD 100000 (cB 49 [pL false 3,pI,pB,pO 300000 0]),dD 300000 zbj]))
abbrev zbp:=(cA false false 0 5)
abbrev zbq:=[pI,pB,pB,pB,pB]
abbrev zbr:=(cB 49 [pL false 3,pI,pB,pO 300002 0])
abbrev zbs:=[pP 100000 0,pI]
abbrev zbt:=[pL false 1,pI,pI]
abbrev zbu:=[dD 0 (pP 100000 0),dD 2 (pP 300000 0),dD 3 (pP 300001 0)]
abbrev zbv:=(cB 49 [pL false 3,pI,pB,pO 300003 0])
abbrev zbw:=[dD 100000 zbr,dD 300000 zbn,dD 300001 (cB 52 [pI,pI,pS,pS,pO 300003 0]),dD 300002 zbj,dD 300003 zbp]
abbrev zbx:=[dD 0 (pL false 5),dD 4 (pP 300000 0),dD 6 (pP 300001 0),dD 23 (pL false 1),dD 24 pI,dD 25 pI]
abbrev zby:=[dD 0 (pP 100000 0),dD 3 (pP 300000 0),dD 4 (pP 300001 0),dD 5 (pP 300002 0),dD 6 (VL 5)]
abbrev zbz:=[dD 300000 (cA false false 0 4),dD 300001 (cB 141 [pI,pI,pS,pO 300002 0]),dD 300002 zbj]
abbrev zbA:=[pI,pI,pS,pS,pL false 5]
abbrev zbB:=[dD 1 (pO 300000 0),dD 5 (pP 300001 0),dD 18 (pL false 5),dD 19 pI,dD 20 pI]
abbrev zbC:=[dD 0 (pL false 3),dD 3 (pP 300000 0),dD 5 (pP 300001 0),dD 6 (pP 300002 0)]
abbrev zbD:=[dD 300000 zbp,dD 300001 (cB 60 [pI,pI,pS,pS,pO 300002 0]),dD 300002 zbj]
abbrev zbE:=[dD 1 (pL false 1),dD 2 (pP 300000 0),dD 5 (pO 300001 0),dD 6 pI]
abbrev zbF:=[dD 2 (pL false 1),dD 7 (pO 300000 0),dD 8 (pP 300001 0),dD 9 pI]
abbrev zbG:=(pOr (IC [dD 0 pS,dD 1 pI,dD 9 pB] []) (IC [dD 0 pS,dD 1 pI] []))
abbrev zbH{A B C D E F:Type}(f:A->B->C->D->E)(x:A×B×C×D×F):E:=f x.1 x.2.1 x.2.2.1 x.2.2.2.1
def zJ1{R ρ:Type}{k:ρ->Option R}{n:Nat}{x:Row}{f:Int->Int->aC->aC->au->Option R}{g:Int->Int->aC->aC->au->Option ρ}(h:∀a b c d e,f a b c d e=(g a b c d e).bind k):JY n x f=(JY n x g).bind k:=by unfold JY;repeat' first|apply AZ|intro _|apply h
def zJ2{R ρ:Type}{k:ρ->Option R}{n:Nat}{x r:au}{f:au->Option R}{g:au->Option ρ}(h:∀c,f c=(g c).bind k):oV x r n f=(oV x r n g).bind k:=by unfold oV;repeat' first|apply dM|apply h|rfl
theorem zbI{P:Prop}(h:P:=by repeat' first|(with_reducible first|apply dM|apply AZ|apply A8|apply Ba|apply Bc|apply zJ1|apply zJ2)|intro _|apply dM|rfl):P:=h
abbrev S.VQ:=ra 4 [pL false 1]
abbrev S.JZ:fA:=sg 14 [pL false 1] [] (ρ:=au×Int×Int) λr=>([[D.sl false 1 r.1,D.int .i64 r.2.1,D.int .i64 r.2.2]],[])
abbrev S.nC:=zaZ 64 [pP 100000 0]
abbrev S.bM:=zaZ 31 zbs
abbrev S.dn:=zba 66 [pP 100000 0,pL false 1]
abbrev S.EW:=zba 155 [pP 100000 0]
abbrev S.EY:=zba 156 [pP 100000 0]
abbrev S.rX:fA:=sg 113 zbs [cB 67 zbt] (ρ:=Bool×au×Int×Int) λr=>([[D.bool r.1]],[Cell.box 67 [V.d (D.sl false 1 r.2.1),V.d (D.int .i64 r.2.2.1),V.d (D.int .i64 r.2.2.2)]])
abbrev S.EZ:=zba 157 [pP 100000 0]
abbrev S.nD:=zba 151 [pP 100000 0]
abbrev S.DN:=zbb 148 [pP 100000 0]
abbrev S.Ak:=rc 180 [pL false 5,pI]
abbrev S.kK:=rc 150 [qm zbk,pL false 1]
abbrev S.E5:=zbb 149 zbs
abbrev S.J3:fA:=sg 152 [pP 100000 0,pI,pI,pI] [cB 67 zbt] (ρ:=au×au×Int×Int) λr=>([[D.sl true 1 r.1]],[Cell.box 67 [V.d (D.sl false 1 r.2.1),V.d (D.int .i64 r.2.2.1),V.d (D.int .i64 r.2.2.2)]])
abbrev S.qo:=zaZ 153 [pP 100000 0,pL false 1]
abbrev S.DT:=zaZ 154 [pP 100000 0]
abbrev S.nG:=zbb 109 zbs
abbrev S.oz:=re 110 []
abbrev S.dP:=ra 73 [pI,pI,pI]
abbrev S.E8:=rf 91 [pL false 5]
abbrev S.yB:=ra 56 [pL false 5]
abbrev S.DU:=rg 57 [pL false 5]
abbrev S.bg:=rh 92 [qm zbk]
abbrev S.DV:=ra 137 [pI]
abbrev S.wY:=ra 138 [pI]
abbrev S.bW:=ra 93 [qm zbk]
abbrev S.mP:=ra 40 [pI]
abbrev S.tJ:=ra 36 [pI]
abbrev S.jL:=ra 78 [pI]
abbrev S.qp:=ra 43 [pS]
abbrev S.Am:=rj 125 []
abbrev S.Bf:=rg 124 [pL false 1,pS]
abbrev S.qw:=rg 76 [pS]
abbrev S.qM:=rj 126 []
abbrev S.kY:=ra 77 [pS]
abbrev S.kL:=ra 139 [pS]
abbrev S.yC:=ra 173 [pS]
abbrev S.gG:=rg 17 [pS,pI]
abbrev S.fQ:=rg 74 [pS,pI]
abbrev S.yM:=rg 37 [pS,pI]
abbrev S.vF:=rg 75 [pS,pI,pI]
abbrev S.Bg:=rg 38 [pS,pI]
abbrev S.Bh:=rg 39 [pS,pI]
abbrev S.Ap:=rj 79 []
abbrev S.jO:=rk 158 [pI]
abbrev S.nM:=ra 140 [qm [pI,pS,pI]]
abbrev S.bn:=ra 94 [qm zbk]
abbrev S.aG:=ra 58 [qm zbk]
abbrev S.vG:=ra 95 [pI]
abbrev S.lH:=ra 96 [pI]
abbrev S.G8:=ra 97 [pI]
abbrev S.aW:=ra 59 [qm zbk,pI,pI]
abbrev S.Bj:=ra 29 [pL false 5]
abbrev S.J4:=ra 177 [pL false 5]
abbrev S.xM:=ra 178 [qm zbq]
abbrev S.vS:=rg 224 [pI]
abbrev S.nN:=rg 211 [qm zbk]
abbrev S.Ja:=ra 190 [qm zbk,qm zbq]
abbrev S.dI:=rl 212 [qm zbk]
abbrev S.fG:=rm 193 [pS]
abbrev S.yD:=rm 227 []
abbrev S.vH:=rm 220 [pL false 4,pI]
abbrev S.fH:=rm 192 [pI,pI,pL false 1]
abbrev S.DW:=rm 218 [qm [pL false 5,pB],pL false 1,qm zbq]
abbrev S.E9:=rm 213 [qm [pL false 5,pB],qm zbk,pS,pS]
abbrev S.BM:=rm 214 [qm [pL false 5,pB],pI]
abbrev S.Aq:=rh 225 [pI]
abbrev S.gV:=re 215 [qm zbk,pI,qm zbq]
abbrev S.gW:=rl 216 [pI]
abbrev S.DX:=rp 230 [qm [pL false 5,pB],pL false 1]
abbrev S.Fa:=rp 228 [qm [pL false 5,pB],qm [pI,pS,pI],pL false 1,pI]
abbrev S.BN:=rp 229 [qm [pL false 5,pB],pI]
abbrev S.Fb:=rp 231 [qm [pL false 5,pB],qm zbk,qm zbq]
abbrev S.DY:=rp 226 [qm [pL false 5,pB],pI,qm zbq]
abbrev S.vT:=rp 217 [qm [pL false 5,pB],pI,qm zbq]
abbrev S.zn:=rh 44 [pS,pI]
abbrev S.sN:=ra 111 [qm [pI,pS,pI],qm [pI,pS,pI]]
abbrev S.J5:=rm 219 [qm [pL false 5,pB],qm zbk,qm zbq]
abbrev S.DZ:=rm 191 [qm [pL false 5,pB],pI,qm zbq]
abbrev S.rM:=rm 179 [qm [pL false 5,pB],pI,qm zbq]
abbrev S.Ht:=rm 147 [pL false 5,qm zbq]
abbrev S.D5:=ra 188 [qm [pI,pI,pS,pL false 1]]
abbrev S.yN:=rf 189 [pL false 4]
abbrev S.J6:=ra 176 [pL false 4]
abbrev S.sO:fA:=sg 146 [pL false 4] [] (ρ:=aC×Bool) λr=>([[D.str r.1],[D.bool r.2]],[])
abbrev S.sQ:=rk 108 [pL false 5,qm zbq]
abbrev S.Ar:=zba 145 zbs
abbrev S.tN:=zba 107 zbs
abbrev S.D6:=zba 67 [pP 100000 0]
abbrev S.vU:=zba 33 [pP 100000 0]
abbrev S.G9:=zba 65 zbs
abbrev S.yE:=zba 32 [pP 100000 0,pS]
abbrev S.vV:fA:=sg 112 [pP 100000 0] [cB 67 zbt] (ρ:=Int×aC×Int×au×Int×Int) λr=>([[D.int .i64 r.1,D.str r.2.1,D.int .i64 r.2.2.1]],[Cell.box 67 [V.d (D.sl false 1 r.2.2.2.1),V.d (D.int .i64 r.2.2.2.2.1),V.d (D.int .i64 r.2.2.2.2.2)]])
abbrev S.fB:=ra 19 [pI]
abbrev S.Bl:fA:=sg 69 zbs [cB 67 zbt] (ρ:=au×au×Int×Int) λr=>([[D.sl true 3 r.1]],[Cell.box 67 [V.d (D.sl false 1 r.2.1),V.d (D.int .i64 r.2.2.1),V.d (D.int .i64 r.2.2.2)]])
abbrev S.OC:=rk 68 [pL false 3]
abbrev S.Bo:=zba 34 [pP 100000 0]
abbrev S.D7:=zba 13 [pP 100000 0]
abbrev S.yO:=rk 5 [pL false 1]
abbrev S.D8:=ra 70 [pI]
abbrev S.dZ:=ra 28 [pI,pI,pI]
abbrev S.iZ:=rg 71 [pS,pI]
abbrev S.strings_IndexByte:=rg 114 [pS,pK IntKind.u8]
abbrev S.tV:=ra 115 [pI]
abbrev S.jB:=rg 160 [pS,pI]
abbrev S.yP:=rg 116 [pS,pI]
abbrev S.sS:=rg 161 [pS,pI,pI]
abbrev S.Bq:=rg 117 [pS,pI]
abbrev S.jl:=ra 81 [pI]
abbrev S.Bv:=rg 118 [pS,pI]
abbrev S.mQ:=ra 119 [pI]
abbrev S.oN:=ra 162 [pI]
abbrev S.Au:=rg 120 [pS,pI]
abbrev S.qx:=ra 121 [pS]
abbrev S.slices_Index:=rg 175 [pL false 1,pS]
abbrev S.qy:=rg 163 [pS]
abbrev S.slices_Contains:=ra 144 [pL false 1,pS]
abbrev S.mJ:=ra 129 [pS]
abbrev S.vW:=rl 122 [pS,pI,pI]
abbrev S.jG:=ra 182 [pS,pS]
abbrev S.strings_HasPrefix:=ra 164 [pS,pS]
abbrev S.Ld:=rh 123 [pS,pI]
abbrev S.Aw:=rl 72 [pS,pI,pI]
abbrev S.Hu:=rq 35 [pS,pI,pI]
abbrev S.Ue:=rq 15 [pS]
abbrev S.strings_Contains:=ra 127 [pS,pS]
abbrev S.lI:=ra 128 [pS]
abbrev S.ug:=ra 166 [pI]
abbrev S.zI:=ra 167 [pI]
abbrev S.D9:=rk 130 [pI]
abbrev S.qX:=ra 80 [qm [pI,pS,pI]]
abbrev S.Bz:=ra 45 [pL false 3]
abbrev S.zJ:=ra 82 [pI]
abbrev S.zK:=ra 83 [pI]
abbrev S.He:=rg 46 [pL false 3]
abbrev S.pJ:=rg 24 [pL false 3,pI]
abbrev S.vX:=rr 20 [pL false 3]
abbrev S.aA:fA:=sg 48 [pP 100000 0] [cB 49 [pL false 3,pI,pB,pL true 1]] (ρ:=Int×au×Int×Bool×au) λr=>([[D.int .i64 r.1]],[zaX r.2])
abbrev S.aP:=zbc 47 [pP 100000 0]
abbrev S.bQ:=zbc 21 [pP 100000 0]
abbrev S.dU:=zbd 22 [pP 100000 0]
abbrev S.aO:=zbe 84 zbs
abbrev S.nH:=zbe 210 [pP 100000 0]
abbrev S.je:=zbd 185 zbm
abbrev S.jm:=zbd 169 zbs
abbrev S.jH:=zbf 198 [pP 100000 0]
abbrev S.fF:=zbg 86 [pP 100000 0]
abbrev S.bF:=zbg 87 [pP 100000 0]
abbrev S.iI:=ra 142 [pI]
abbrev S.oC:=zbf 223 [pP 100000 0]
abbrev S.lM:=zbf 209 [pP 100000 0]
abbrev S.jF:=zbf 208 [pP 100000 0]
abbrev S.uh:=zbf 222 [pP 100000 0]
abbrev S.kZ:=zbf 207 [pP 100000 0]
abbrev S.oW:=zbf 206 [pP 100000 0]
abbrev S.ni:fA:=sg 172 [pI,qm [pI,pI,pS,pS,pL false 5,pB],qm [pI,pI,pS,pS,pL false 5,pB]] [] (ρ:=Int×Int×aC×aC×Bool×au×Bool) λr=>([[D.int .i64 r.1,D.int .i64 r.2.1,D.str r.2.2.1,D.str r.2.2.2.1,D.sl r.2.2.2.2.1 5 r.2.2.2.2.2.1,D.bool r.2.2.2.2.2.2]],[])
abbrev S.qN:=zbf 205 zbm
abbrev S.jQ:=zbf 204 zbm
abbrev S.nO:=rg 143 [pI]
abbrev S.oO:=zbf 203 zbm
abbrev S.jU:=zbf 202 zbm
abbrev S.mV:=ra 197 [pI]
abbrev S.qO:=zbf 201 zbm
abbrev S.lN:=zbf 200 zbm
abbrev S.mM:=zbf 199 zbm
abbrev S.qA:=zbf 187 zbm
abbrev S.oP:=zbf 171 zbm
abbrev S.sU:=zbf 136 zbm
abbrev S.nT:=zbf 88 zbm
abbrev S.vI:=ra 89 [pI]
abbrev S.bP:=zbf 51 zbm
abbrev S.iE:=zbh 133 [pP 100000 0]
abbrev S.qY:=zbh 134 [pP 100000 0]
abbrev S.uj:=zbh 132 [pP 100000 0]
abbrev S.lQ:=ra 90 [pI]
abbrev S.jo:=zbc 52 [pP 100000 0]
abbrev S.fE:=zbh 170 [pP 100000 0,pI,qm [pB,pB]]
abbrev S.xO:=zbh 135 [pP 100000 0]
abbrev S.Fe:=ra 184 [pI]
abbrev S.kR:=zbf 186 [pP 100000 0,qm zbq]
abbrev S.oq:=zbh 168 zbs
abbrev S.mW:=zbh 131 [pP 100000 0]
abbrev S.lD:=zbh 85 [pP 100000 0]
abbrev S.cZ:=zbh 49 [pP 100000 0]
abbrev S.oD:=zbh 50 [pP 100000 0]
abbrev S.mg:=zbh 23 [pP 100000 0]
abbrev S.oQ:=rg 53 [qm zbA]
abbrev S.kS:=rg 54 [qm zbA]
abbrev S.vY:=rr 25 [qm zbA]
abbrev S.qP:=rc 55 [qm zbA,pL true 5]
abbrev S.qB:=rc 26 [qm zbA]
abbrev S.iW:=rt 8 [pL false 3]
abbrev S.J7:=rt 6 [pS]
abbrev S.Ea:=ra 16 [pI]
abbrev S.Az:=rg 42 [pS,pI]
abbrev S.Eb:=rl 41 [pS,pI,pI]
abbrev S.Ec:=rl 18 [pS,pI,pB]
abbrev S.Uf:=rq 7 [pS]
abbrev S.Hf:=ra 27 [pL false 1,pL false 1]
abbrev S.yF:=ra 9 [pL false 5,pL false 5]
abbrev S.BO:=rk 10 [pI]
abbrev S.yQ:=ra 11 [pL false 5]
abbrev S.lK:=rf 98 [pL false 5]
abbrev S.Ed:=ra 60 [pL false 5]
abbrev S.fU:=ra 99 [pI]
abbrev S.kM:=rv 100 [qm zbk]
abbrev S.jZ:=ra 101 [pI]
abbrev S.kN:=rv 102 [qm zbk]
abbrev S.kP:=rv 103 [qm zbk]
abbrev S.jA:=ra 61 [qm zbk]
abbrev S.vJ:=ra 104 [pI]
abbrev S.Hg:=ra 105 [pI]
abbrev S.gU:=ra 62 [qm zbk,pI,pI]
abbrev S.wZ:=rx 106 [pL false 5,pI]
abbrev S.J8:=rx 63 [pL false 5]
abbrev S.Hl:=ra 30 [pL false 5]
abbrev S.yR:=ra 12 [pL false 5]
abbrev S.Fg:=ra 3 [pL false 1]
abbrev M.Y0(code:au)(k:Bool->Option R):=k (decide ((↑code.length:Int)>1048576))
def M.VQ code:=M.Y0 code some
def C.VQ:=fTa S.VQ (λx=>M.Y0 x.1.1)
def M.Dw(code:au)(s:Int×Int)(kn:Int×Int->Option R)(ke:Int×Int->Option R):Option R:=match s with
 |(h',i)=>bif decide (i<(↑code.length:Int)) then(bif decide (i<4000) then((idx code i).bind λa=>(jD IntKind.u8 a 0).bind λb=>kn (i64.wrap (↑(BitVec.ofInt 64 (i64.wrap (i64.wrap (i64.wrap (h' * 131)+i64.wrap b)+7)) &&& BitVec.ofInt 64 1073741823).toNat:Int),i64.wrap (i+1))) else ke (h',i)) else ke (h',i)
def M.IE code s:=M.Dw code s (λs=>some (Sum.inl s)) λt=>some (Sum.inr t)
def M.SB code s:=fV (M.IE code) s
def F.SB:LE X0 14:=le 3 (IC [dD 0 (pL false 1),dD 3 pI,dD 4 pI] []) (λx=>(x.1.2.1,x.1.2.2.1)) (λx s=>((x.1.1,s.1,s.2,()),())) (λx=> .leaf (Int×Int) (λt=>(Ex.exit 0,⟨[(0,ET 1 x.1.1),(3,iY t.1),(4,iY t.2),(15,ou false)],[]⟩))) (λx=>M.Dw x.1.1) [] [] (by rintro _ _ ⟨_,_⟩ _ _<;>simp only[M.Dw,nb]<;>rfl)
abbrev M.Vb(code:au)(k:au×Int×Int->Option R):=(M.SB code (i64.wrap (10101+(↑code.length:Int)),0)).bind λa=>k (code,0,a.1)
def M.JZ code:=M.Vb code some
def C.JZ:=fTa S.JZ (λx=>M.Vb x.1.1) [] [F.SB]
abbrev M.SC(c:au)(c1 c2:Int)(k:Int×au×Int×Int->Option R):=cond (decide (c1<(↑c.length:Int))) ((idx c c1).bind λa=>(jD IntKind.u8 a 0).bind λb=>k (i64.wrap (↑(BitVec.ofInt 64 (i64.wrap (i64.wrap (↑(BitVec.ofInt 64 (i64.wrap (↑(BitVec.ofInt 64 ((i64.wrap (i64.wrap (c2 * 6364136223846793005)+1442695040888963407)).fdiv 8589934592) ^^^ BitVec.ofInt 64 ((i64.wrap (i64.wrap (c2 * 6364136223846793005)+1442695040888963407)).fdiv 35184372088832)).toNat:Int)) &&& BitVec.ofInt 64 255).toNat:Int)+i64.wrap b)) &&& BitVec.ofInt 64 255).toNat:Int),c,i64.wrap (c1+1),i64.wrap (i64.wrap (c2 * 6364136223846793005)+1442695040888963407))) (k (i64.wrap (↑(BitVec.ofInt 64 (i64.wrap (↑(BitVec.ofInt 64 ((i64.wrap (i64.wrap (c2 * 6364136223846793005)+1442695040888963407)).fdiv 8589934592) ^^^ BitVec.ofInt 64 ((i64.wrap (i64.wrap (c2 * 6364136223846793005)+1442695040888963407)).fdiv 35184372088832)).toNat:Int)) &&& BitVec.ofInt 64 255).toNat:Int),c,c1,i64.wrap (i64.wrap (c2 * 6364136223846793005)+1442695040888963407)))
def M.nC c c1 c2:=M.SC c c1 c2 some
def C.nC:=fTa S.nC (λx=>M.SC x.2.1.1 x.2.1.2.1 x.2.1.2.2.1)
abbrev M.F8(n':Int)(c:au)(c1 c2:Int)(k:Int×au×Int×Int->Option R):=cond (decide (n'<=0)) (k (0,c,c1,c2)) (cond (decide (n'<=256)) ((M.nC c c1 c2).bind λd=>cond (!decide (n'=0)) (k (d.1.tmod n',d.2)) none) ((M.nC c c1 c2).bind λf=>(M.nC f.2.1 f.2.2.1 f.2.2.2).bind λe=>(M.nC e.2.1 e.2.2.1 e.2.2.2).bind λb=>(M.nC b.2.1 b.2.2.1 b.2.2.2).bind λa=>cond (!decide (n'=0)) (k ((i64.wrap (i64.wrap (i64.wrap (i64.wrap (f.1 * 16777216)+i64.wrap (e.1 * 65536))+i64.wrap (b.1 * 256))+a.1)).tmod n',a.2)) none))
def M.bM n' c c1 c2:=M.F8 n' c c1 c2 some
def C.bM:=fTa S.bM (λx=>M.F8 x.1.2.1 x.2.1.1 x.2.1.2.1 x.2.1.2.2.1) [fe C.nC]
abbrev M.Np(list c:au)(c1 c2:Int)(k:aC×au×Int×Int->Option R):=(M.bM ((↑list.length:Int)) c c1 c2).bind λa=>(idx list a.1).bind λd=>(cStr d 0).bind λb=>k (b,a.2)
def M.dn list c c1 c2:=M.Np list c c1 c2 some
def C.dn:=fTa S.dn (λx=>M.Np x.1.2.1 x.2.1.1 x.2.1.2.1 x.2.1.2.2.1) [fe C.bM]
abbrev M.Vd(c:au)(c1 c2:Int)(k:aC×au×Int×Int->Option R):=(M.dn ([[D.str [48]],[D.str [49]],[D.str [52,50]],[D.str [51,46,53]],[D.str [46,53]],[D.str [55,46]],[D.str [49,101,51]],[D.str [50,69,45,52]],[D.str [49,48,46,50,53,101,43,49]]]) c c1 c2).bind λa=>k (a)
def M.EW c c1 c2:=M.Vd c c1 c2 some
def C.EW:=fTa S.EW (λx=>M.Vd x.2.1.1 x.2.1.2.1 x.2.1.2.2.1) [fe C.dn]
abbrev M.Ve(c:au)(c1 c2:Int)(k:aC×au×Int×Int->Option R):=(M.dn ([[D.str [34,34]],[D.str [34,97,34]],[D.str [34,120,32,121,34]],[D.str [34,113,92,34,113,34]],[D.str [34,92,110,34]],[D.str [34,35,110,111,34]],[D.str [34,47,34]]]) c c1 c2).bind λa=>k (a)
def M.EY c c1 c2:=M.Ve c c1 c2 some
def C.EY:=fTa S.EY (λx=>M.Ve x.2.1.1 x.2.1.2.1 x.2.1.2.2.1) [fe C.dn]
abbrev M.SE(n':Int)(c:au)(c1 c2:Int)(k:Bool×au×Int×Int->Option R):=(M.bM n' c c1 c2).bind λa=>k (a.1==0,a.2)
def M.rX n' c c1 c2:=M.SE n' c c1 c2 some
def C.rX:=fTa S.rX (λx=>M.SE x.1.2.1 x.2.1.1 x.2.1.2.1 x.2.1.2.2.1) [fe C.bM]
abbrev M.Vf(c:au)(c1 c2:Int)(k:aC×au×Int×Int->Option R):=(M.dn ([[D.str [47,97,47]],[D.str [47,94,120,43,36,47]],[D.str [47,97,92,47,98,47]],[D.str [47,61,47]],[D.str [47,32,47]],[D.str [47,91,48,45,57,93,47]]]) c c1 c2).bind λa=>k (a)
def M.EZ c c1 c2:=M.Vf c c1 c2 some
def C.EZ:=fTa S.EZ (λx=>M.Vf x.2.1.1 x.2.1.2.1 x.2.1.2.2.1) [fe C.dn]
abbrev M.SG(c:au)(c1 c2:Int)(k:aC×au×Int×Int->Option R):=(M.dn ([[D.str [120]],[D.str [121]],[D.str [110]],[D.str [105]],[D.str [97,114,114]],[D.str [78,82]],[D.str [70,83]],[D.str [116,111,116,97,108]],[D.str [97,49]],[D.str [95,116]],[D.str [99,111,117,110,116]]]) c c1 c2).bind λa=>k (a)
def M.nD c c1 c2:=M.SG c c1 c2 some
def C.nD:=fTa S.nD (λx=>M.SG x.2.1.1 x.2.1.2.1 x.2.1.2.2.1) [fe C.dn]
abbrev M.SH(c:au)(c1 c2:Int)(k:au×au×Int×Int->Option R):=(M.bM 7 c c1 c2).bind λa=>cond (a.1==0) ((M.EW a.2.1 a.2.2.1 a.2.2.2).bind λh=>k ([[D.int .i64 2,D.int .i64 0,D.str h.1,D.str [],D.sl true 1 []]],h.2)) (cond (a.1==1) ((M.EY a.2.1 a.2.2.1 a.2.2.2).bind λe=>k ([[D.int .i64 3,D.int .i64 0,D.str e.1,D.str [],D.sl true 1 []]],e.2)) (cond (a.1==2) ((M.rX 2 a.2.1 a.2.2.1 a.2.2.2).bind λb=>cond b.1 ((M.EZ b.2.1 b.2.2.1 b.2.2.2).bind λd=>k ([[D.int .i64 4,D.int .i64 0,D.str d.1,D.str [],D.sl true 1 []]],d.2)) ((M.nD b.2.1 b.2.2.1 b.2.2.2).bind λf=>k ([[D.int .i64 1,D.int .i64 0,D.str f.1,D.str [],D.sl true 1 []]],f.2))) ((M.nD a.2.1 a.2.2.1 a.2.2.2).bind λg=>k ([[D.int .i64 1,D.int .i64 0,D.str g.1,D.str [],D.sl true 1 []]],g.2))))
def M.DN c c1 c2:=M.SH c c1 c2 some
def C.DN:=fTa S.DN (λx=>M.SH x.2.1.1 x.2.1.2.1 x.2.1.2.2.1) [fe C.bM,fe C.EW,fe C.EY,fe C.rX,fe C.EZ,fe C.nD]
def M.Ee(l:au)(by' i:Int)(x':au)(o7 qg:Int)(uX xB:aC)(s:Int×au)(kn:Int×au->Option R)(ke:Int×au->Option R):Option R:=match s with
 |(k',Dn)=>(idx l i).bind λa=>(cSl 1 a 4).bind λf=>bif decide (k'<(↑f.length:Int)) then((idx l i).bind λd=>(cSl 1 d 4).bind λb=>(idx b k').bind λe=>(jD .i64 e 0).bind λc=>oV Dn [[D.int .i64 (i64.wrap (c+by'))]] 8 λg=>kn (i64.wrap (k'+1),g)) else ke (k',Dn)
def M.Jo l by' i x' o7 qg uX xB s:=M.Ee l by' i x' o7 qg uX xB s (λs=>some (Sum.inl s)) λt=>some (Sum.inr t)
def M.NJ l by' i x' o7 qg uX xB s:=fV (M.Jo l by' i x' o7 qg uX xB) s
def F.NJ:LE X0 180:=le 8 (IC [dD 0 (pL false 5),dD 1 pI,dD 5 (pO 300000 0),dD 6 pI,dD 7 (pP 300001 0),dD 8 pI] zbD) (λx=>(x.1.va.2.2.1,x.va.1)) (λx s=>((x.1.1,x.1.2.1,(),x.1.va.1,(),s.1,()),(x.2.1,(x.2.2.1.1,x.2.2.1.2.1,x.2.2.1.2.2.1,x.2.2.1.va.1,(),()),s.2,()))) (λx=> .leaf (Int×au) (λt=>(Ex.exit 2,⟨[(0,ET 5 x.1.1),(1,iY x.1.2.1),(5,V.own 300000 0),(6,iY x.1.va.1),(7,V.ptr 300001 0),(8,iY t.1),(29,ou false)],[(300000,Cell.arr false false 0 5 x.2.1),(300001,Cell.box 60 [iY x.2.2.1.1,iY x.2.2.1.2.1,qU x.2.2.1.2.2.1,qU x.2.2.1.va.1,V.own 300002 0]),(300002,Cell.arr false true 0 1 t.2)]⟩))) (λx=>zbH (M.Ee x.1.1 x.1.2.1 x.1.va.1 x.2.1) x.2.2.1) [] [] (by rintro _ _ ⟨_,_⟩ _ _<;>simp only[zbH,oV,M.Ee,nb]<;>rfl)
def M.Ef(l:au)(by':Int)(s:Int×au)(kn:Int×au->Option R)(ke:Int×au->Option R):Option R:=match s with
 |(i,x')=>bif decide (i<(↑l.length:Int)) then((idx l i).bind λb=>JY 1 b λn43 n44 s45 s46 _=>((M.NJ l by' i x' n43 n44 s45 s46 (0,[])).bind λa=>bif aj a.2 then(oV x' [[D.int .i64 n43,D.int .i64 n44,D.str s45,D.str s46,D.sl true 1 a.2]] 72 λc=>kn (i64.wrap (i+1),c)) else none)) else ke (i,x')
def M.Jp l by' s:=M.Ef l by' s (λs=>some (Sum.inl s)) λt=>some (Sum.inr t)
def M.NK l by' s:=fV (M.Jp l by') s
def F.NK:LE X0 180:=le 3 (IC [dD 0 (pL false 5),dD 1 pI,dD 5 (pO 300000 0),dD 6 pI] [dD 300000 zbp]) (λx=>(x.1.va.1,x.2.1)) (λx s=>((x.1.1,x.1.2.1,(),s.1,()),(s.2,()))) (λx=> .leaf (Int×au) (λt=>(Ex.exit 0,⟨[(0,ET 5 x.1.1),(1,iY x.1.2.1),(5,V.own 300000 0),(6,iY t.1),(13,ou false)],[(300000,Cell.arr false false 0 5 t.2)]⟩))) (λx=>M.Ef x.1.1 x.1.2.1) [] [F.NJ] (by rintro _ _ ⟨_,_⟩ _ _<;>simp only[oV,JY,M.Ef,nb]<;>rfl)
abbrev M.PK(l:au)(by':Int)(k:au->Option R):=(M.NK l by' (0,[])).bind λa=>k a.2
def M.Ak l by':=M.PK l by' some
def C.Ak:=fTa S.Ak (λx=>M.PK x.1.1 x.1.2.1) [] [F.NK]
def M.F9(parts:au)(x' o7:Int)(qg uX:aC)(s:Int×au×au)(kn:Int×au×au->Option R)(ke:Int×au×au->Option R):Option R:=match s with
 |(k',xB,Dn)=>bif decide (k'<(↑parts.length:Int)) then((idx parts k').bind λc=>(cSl 5 c 0).bind λb=>(M.Ak b ((↑xB.length:Int))).bind λa=>oV xB a 72 λd=>oV Dn [[D.int .i64 (i64.wrap ((↑d.length:Int) - 1))]] 8 λe=>kn (i64.wrap (k'+1),d,e)) else ke (k',xB,Dn)
def M.Le parts x' o7 qg uX s:=M.F9 parts x' o7 qg uX s (λs=>some (Sum.inl s)) λt=>some (Sum.inr t)
def M.PL parts x' o7 qg uX s:=fV (M.Le parts x' o7 qg uX) s
def F.PL:LE X0 150:=le 4 (IC zbE [dD 300000 (cB 60 [pI,pI,pS,pS,pO 300002 0]),dD 300001 zbp,dD 300002 zbj]) (λx=>(x.1.va.1,x.2.2.1,x.va.1)) (λx s=>((x.1.1,(),(),s.1,()),((x.2.1.1,x.2.1.2.1,x.2.1.2.2.1,x.2.1.va.1,(),()),s.2.1,s.2.2,()))) (λx=> .leaf (Int×au×au) (λt=>(Ex.exit 0,⟨[(1,ET 1 x.1.1),(2,V.ptr 300000 0),(5,V.own 300001 0),(6,iY t.1),(13,ou false)],[(300000,Cell.box 60 [iY x.2.1.1,iY x.2.1.2.1,qU x.2.1.2.2.1,qU x.2.1.va.1,V.own 300002 0]),(300001,Cell.arr false false 0 5 t.2.1),(300002,Cell.arr false true 0 1 t.2.2)]⟩))) (λx=>zbH (M.F9 x.1.1) x.2.1) [fe C.Ak] [] (by rintro _ _ ⟨_,_,_⟩ _ _<;>simp only[zbH,oV,M.F9,nb]<;>rfl)
abbrev M.SI(n' kC:Int)(ny oM:aC)(sV parts:au)(k:au->Option R):=(M.PL parts n' kC ny oM (0,[],[])).bind λa=>cond (aj a.2.2) (oV a.2.1 [[D.int .i64 n',D.int .i64 kC,D.str ny,D.str oM,D.sl true 1 a.2.2]] 72 λb=>k b) none
def M.kK n' kC ny oM sV parts:=M.SI n' kC ny oM sV parts some
def C.kK:=fTa S.kK (λx=>M.SI x.1.1.1 x.1.1.2.1 x.1.1.2.2.1 x.1.1.va.1 x.1.1.va.2.1 x.1.2.1) [] [F.PL]
def M.Dx(bV:zae)(deep:Int)(c:au)(c1 c2:Int)(k:au×au×Int×Int->Option R):=(M.bM 4 c c1 c2).bind λa=>cond (a.1==0) ((M.nD a.2.1 a.2.2.1 a.2.2.2).bind λb=>(bV (i64.wrap (deep - 1)) b.2.1 b.2.2.1 b.2.2.2).bind λf=>(M.kK 5 0 b.1 [] [] (aB [[D.sl true 5 f.1]])).bind λh=>cond ([[D.sl true 5 h]].all gI) (k (h,f.2)) none) (cond (a.1==1) ((bV (i64.wrap (deep - 2)) a.2.1 a.2.2.1 a.2.2.2).bind λe=>(M.kK 6 0 [] [] [] (aB [[D.sl true 5 e.1]])).bind λg=>cond ([[D.sl true 5 g]].all gI) (k (g,e.2)) none) ((M.nD a.2.1 a.2.2.1 a.2.2.2).bind λd=>k ([[D.int .i64 1,D.int .i64 0,D.str d.1,D.str [],D.sl true 1 []]],d.2)))
def C.agW{bV:zae}(Fh:S.nG.ok X0 λx=>bV x.1.2.1 x.2.1.1 x.2.1.2.1 x.2.1.2.2.1):S.E5.ok X0 λx=>M.Dx bV x.1.2.1 x.2.1.1 x.2.1.2.1 x.2.1.2.2.1 some:=fnS (λx=>M.Dx bV x.1.2.1 x.2.1.1 x.2.1.2.1 x.2.1.2.2.1) [fe C.bM,fe C.nD,fe Fh,fe C.kK] [] (by intros;simp only[M.Dx,nb]<;>rfl)
def M.Lh(bV:zae)(deep:Int)(s:Int×au×Int×Int×au)(kn:Int×au×Int×Int×au->Option R)(ke:Int×au×Int×Int×au->Option R):Option R:=match s with
 |(n',v,v1,v2,x')=>bif decide (n'>0) then((bV deep v v1 v2).bind λa=>oV x' [[D.sl true 5 a.1]] 24 λb=>kn (i64.wrap (n' - 1),a.2.1,a.2.2.1,a.2.2.2,b)) else ke (n',v,v1,v2,x')
def M.Ry bV deep s:=M.Lh bV deep s (λs=>some (Sum.inl s)) λt=>some (Sum.inr t)
def M.PN bV deep s:=fV (M.Ry bV deep) s
def F.PN{bV:zae}(Fh:S.nG.ok X0 λx=>bV x.1.2.1 x.2.1.1 x.2.1.2.1 x.2.1.2.2.1):LE X0 152:=le 3 (IC [dD 0 (pP 100000 0),dD 3 pI,dD 9 (pO 300000 0),dD 10 pI] [dD 100000 (cB 67 zbt),dD 300000 (cA false false 0 1)]) (λx=>(x.1.va.1,x.2.1.1,x.2.1.2.1,x.2.1.2.2.1,x.2.2.1)) (λx s=>(((),x.1.2.1,(),s.1,()),((s.2.1,s.2.2.1,s.va.1,()),s.va.2,()))) (λx=> .leaf zaJ (λt=>(Ex.exit 0,⟨[(0,V.ptr 100000 0),(3,iY x.1.2.1),(9,V.own 300000 0),(10,iY t.1),(21,ou false)],[(100000,Cell.box 67 [ET 1 t.2.1,iY t.2.2.1,iY t.va.1]),(300000,Cell.arr false false 0 1 t.va.2)]⟩))) (λx=>M.Lh bV x.1.2.1) [fe Fh] [] (by rintro _ _ ⟨_,_,_,_,_⟩ _ _<;>simp only[oV,M.Lh,nb]<;>rfl)
def M.Jb(bV:zae)(least most deep:Int)(c:au)(c1 c2:Int)(k:au×au×Int×Int->Option R):=(M.bM (i64.wrap (i64.wrap (most - least)+1)) c c1 c2).bind λb=>(M.PN bV deep (i64.wrap (least+b.1),b.2.1,b.2.2.1,b.2.2.2,[])).bind λa=>k (a.2.2.2.2,a.2.1,a.2.2.1,a.2.2.2.1)
def C.aki{bV:zae}(Fh:S.nG.ok X0 λx=>bV x.1.2.1 x.2.1.1 x.2.1.2.1 x.2.1.2.2.1):S.J3.ok X0 λx=>M.Jb bV x.1.2.1 x.1.2.2.1 x.1.va.1 x.2.1.1 x.2.1.2.1 x.2.1.2.2.1 some:=fnS (λx=>M.Jb bV x.1.2.1 x.1.2.2.1 x.1.va.1 x.2.1.1 x.2.1.2.1 x.2.1.2.2.1) [fe C.bM] [F.PN Fh] (by intros;simp only[M.Jb,nb]<;>rfl)
abbrev M.Lj(list c:au)(c1 c2:Int)(k:Int×au×Int×Int->Option R):=(M.bM ((↑list.length:Int)) c c1 c2).bind λa=>(idx list a.1).bind λd=>(jD .i64 d 0).bind λb=>k (b,a.2)
def M.qo list c c1 c2:=M.Lj list c c1 c2 some
def C.qo:=fTa S.qo (λx=>M.Lj x.1.2.1 x.2.1.1 x.2.1.2.1 x.2.1.2.2.1) [fe C.bM]
abbrev M.PO(c:au)(c1 c2:Int)(k:Int×au×Int×Int->Option R):=(M.qo ([[D.int .i64 60],[D.int .i64 57],[D.int .i64 58],[D.int .i64 59],[D.int .i64 55],[D.int .i64 56],[D.int .i64 56],[D.int .i64 99],[D.int .i64 99],[D.int .i64 99],[D.int .i64 63],[D.int .i64 48],[D.int .i64 47],[D.int .i64 50],[D.int .i64 62],[D.int .i64 62],[D.int .i64 49],[D.int .i64 67],[D.int .i64 46],[D.int .i64 45],[D.int .i64 44]]) c c1 c2).bind λa=>k (a)
def M.DT c c1 c2:=M.PO c c1 c2 some
def C.DT:=fTa S.DT (λx=>M.PO x.2.1.1 x.2.1.2.1 x.2.1.2.2.1) [fe C.qo]
abbrev M.J9(UA:Int×au×Int×Int)(bV:zae)(deep:Int)(k:au×au×Int×Int->Option R):=(M.qo ([[D.int .i64 56],[D.int .i64 55],[D.int .i64 61]]) UA.2.1 UA.2.2.1 UA.2.2.2).bind λb=>(bV (i64.wrap (deep - 1)) b.2.1 b.2.2.1 b.2.2.2).bind λa=>(M.kK 11 b.1 [] [] [] (aB [[D.sl true 5 a.1]])).bind λc=>cond ([[D.sl true 5 c]].all gI) (k (c,a.2)) none
def M.Fj(rY:zae)(bV:zae)(zL:zap)(deep:Int)(c:au)(c1 c2:Int)(k:au×au×Int×Int->Option R):=cond (decide (deep<=0)) ((M.DN c c1 c2).bind λi=>k (i)) ((M.bM 2 c c1 c2).bind λb=>(M.bM 16 b.2.1 b.2.2.1 b.2.2.2).bind λa=>cond (a.1==0) ((M.DN a.2.1 a.2.2.1 a.2.2.2).bind λv=>k (v)) (cond (a.1==1) ((rY deep a.2.1 a.2.2.1 a.2.2.2).bind λn=>k (n)) (cond (a.1==2) ((bV (i64.wrap (deep - 1)) a.2.1 a.2.2.1 a.2.2.2).bind λu=>(M.kK 6 0 [] [] [] (aB [[D.sl true 5 u.1]])).bind λB=>cond ([[D.sl true 5 B]].all gI) (k (B,u.2)) none) (cond (a.1==3) ((M.nD a.2.1 a.2.2.1 a.2.2.2).bind λf=>(zL 0 3 (i64.wrap (deep - 1)) f.2.1 f.2.2.1 f.2.2.2).bind λr=>(M.kK 7 0 f.1 [] [] (aB r.1)).bind λC=>cond ([[D.sl true 5 C]].all gI) (k (C,r.2)) none) (cond (a.1==4) ((M.dn ([[D.str [108,101,110,103,116,104]],[D.str [115,117,98,115,116,114]],[D.str [105,110,100,101,120]],[D.str [105,110,116]],[D.str [116,111,117,112,112,101,114]]]) a.2.1 a.2.2.1 a.2.2.2).bind λx=>(zL 0 3 (i64.wrap (deep - 2)) x.2.1 x.2.2.1 x.2.2.2).bind λm=>(M.kK 8 0 x.1 [] [] (aB m.1)).bind λE=>cond ([[D.sl true 5 E]].all gI) (k (E,m.2)) none) (cond (a.1==5) ((rY (i64.wrap (deep - 1)) a.2.1 a.2.2.1 a.2.2.2).bind λe=>(M.kK 9 (i64.wrap (51+b.1)) [] [] [] (aB [[D.sl true 5 e.1]])).bind λz=>cond ([[D.sl true 5 z]].all gI) (k (z,e.2)) none) (cond (a.1==6) ((rY (i64.wrap (deep - 1)) a.2.1 a.2.2.1 a.2.2.2).bind λj=>(M.kK 10 (i64.wrap (51+b.1)) [] [] [] (aB [[D.sl true 5 j.1]])).bind λG=>cond ([[D.sl true 5 G]].all gI) (k (G,j.2)) none) (cond (a.1==7) (M.J9 a bV deep k) (cond (a.1==8) (M.J9 a bV deep k) (cond (a.1==9) ((M.nD a.2.1 a.2.2.1 a.2.2.2).bind λl=>(zL 1 2 (i64.wrap (deep - 1)) l.2.1 l.2.2.1 l.2.2.2).bind λd=>(M.kK 13 0 l.1 [] [] (aB d.1)).bind λH=>cond ([[D.sl true 5 H]].all gI) (k (H,d.2)) none) (cond (a.1==10) ((bV (i64.wrap (deep - 1)) a.2.1 a.2.2.1 a.2.2.2).bind λq=>(bV (i64.wrap (deep - 1)) q.2.1 q.2.2.1 q.2.2.2).bind λw=>(bV (i64.wrap (deep - 1)) w.2.1 w.2.2.1 w.2.2.2).bind λs=>(M.kK 14 0 [] [] [] (aB [[D.sl true 5 q.1],[D.sl true 5 w.1],[D.sl true 5 s.1]])).bind λF=>cond ([[D.sl true 5 F]].all gI) (k (F,s.2)) none) (cond (a.1==11) ((M.qo ([[D.int .i64 54],[D.int .i64 38],[D.int .i64 43]]) a.2.1 a.2.2.1 a.2.2.2).bind λg=>(rY (i64.wrap (deep - 1)) g.2.1 g.2.2.1 g.2.2.2).bind λp=>(bV (i64.wrap (deep - 1)) p.2.1 p.2.2.1 p.2.2.2).bind λy=>(M.kK 15 g.1 [] [] [] (aB [[D.sl true 5 p.1],[D.sl true 5 y.1]])).bind λI=>cond ([[D.sl true 5 I]].all gI) (k (I,y.2)) none) ((M.DT a.2.1 a.2.2.1 a.2.2.2).bind λh=>(bV (i64.wrap (deep - 1)) h.2.1 h.2.2.1 h.2.2.2).bind λt=>(bV (i64.wrap (deep - 1)) t.2.1 t.2.2.1 t.2.2.2).bind λo=>(M.kK 12 h.1 [] [] [] (aB [[D.sl true 5 t.1],[D.sl true 5 o.1]])).bind λA=>cond ([[D.sl true 5 A]].all gI) (k (A,o.2)) none)))))))))))))
def C.akj{rY:zae}{bV:zae}{zL:zap}(ait:S.E5.ok X0 λx=>rY x.1.2.1 x.2.1.1 x.2.1.2.1 x.2.1.2.2.1)(Fh:S.nG.ok X0 λx=>bV x.1.2.1 x.2.1.1 x.2.1.2.1 x.2.1.2.2.1)(al6:S.J3.ok X0 λx=>zL x.1.2.1 x.1.2.2.1 x.1.va.1 x.2.1.1 x.2.1.2.1 x.2.1.2.2.1):S.nG.ok X0 λx=>M.Fj rY bV zL x.1.2.1 x.2.1.1 x.2.1.2.1 x.2.1.2.2.1 some:=fnS (λx=>M.Fj rY bV zL x.1.2.1 x.2.1.1 x.2.1.2.1 x.2.1.2.2.1) [fe C.DN,fe C.bM,fe ait,fe Fh,fe C.kK,fe C.nD,fe al6,fe C.dn,fe C.qo,fe C.DT] [] (by intros;simp only[M.Fj,M.J9,nb]<;>rfl)
def M.yG:Nat->(zae)×(zae)×(zap):=Nat.rec (λ_ _ _ _=>none,λ_ _ _ _=>none,λ_ _ _ _ _ _=>none) λ_ qz=>(λdeep c c1 c2=>M.Fj qz.2.1 qz.1 qz.2.2 deep c c1 c2 some,λdeep c c1 c2=>M.Dx qz.1 deep c c1 c2 some,λleast most deep c c1 c2=>M.Jb qz.1 least most deep c c1 c2 some)
def M.sW n:=(M.yG n).1
def M.IG n:=(M.yG n).2.1
def M.Nq n:=(M.yG n).2.2
def M.acK(n:Nat):M.sW (n+1)=λdeep c c1 c2=>M.Fj (M.IG n) (M.sW n) (M.Nq n) deep c c1 c2 some:=rfl
def M.aiu(n:Nat):M.IG (n+1)=λdeep c c1 c2=>M.Dx (M.sW n) deep c c1 c2 some:=rfl
def M.al7(n:Nat):M.Nq (n+1)=λleast most deep c c1 c2=>M.Jb (M.sW n) least most deep c c1 c2 some:=rfl
def M.nG deep c c1 c2:=lim λn=>M.sW n deep c c1 c2
def M.E5 deep c c1 c2:=lim λn=>M.IG n deep c c1 c2
def M.J3 least most deep c c1 c2:=lim λn=>M.Nq n least most deep c c1 c2
def C.yG:∀n,(S.nG.ok X0 λx=>M.sW n x.1.2.1 x.2.1.1 x.2.1.2.1 x.2.1.2.2.1)/\(S.E5.ok X0 λx=>M.IG n x.1.2.1 x.2.1.1 x.2.1.2.1 x.2.1.2.2.1)/\(S.J3.ok X0 λx=>M.Nq n x.1.2.1 x.1.2.2.1 x.1.va.1 x.2.1.1 x.2.1.2.1 x.2.1.2.2.1)
 |0=>⟨fA.zero,fA.zero,fA.zero⟩
 |n+1=>have h:=C.yG n;⟨C.akj h.2.1 h.1 h.2.2,C.agW h.1,C.aki h.1⟩
def C.nG:S.nG.ok X0 λx=>M.nG x.1.2.1 x.2.1.1 x.2.1.2.1 x.2.1.2.2.1:=fA.lim λn=>(C.yG n).1
def M.akk{n:Nat}{deep:Int}{c:au}{c1 c2:Int}{r:au×au×Int×Int}(h:M.sW n deep c c1 c2=some r):M.nG deep c c1 c2=some r:=fA.Jf (λn=>(C.yG n).1) (by intro a b h;simp[S.nG,sg] at h;first|exact h|simp[Prod.ext_iff,h]) (x:=(((),deep,()),((c,c1,c2,()),()))) h
def C.E5:S.E5.ok X0 λx=>M.E5 x.1.2.1 x.2.1.1 x.2.1.2.1 x.2.1.2.2.1:=fA.lim λn=>(C.yG n).2.1
def C.J3:S.J3.ok X0 λx=>M.J3 x.1.2.1 x.1.2.2.1 x.1.va.1 x.2.1.1 x.2.1.2.1 x.2.1.2.2.1:=fA.lim λn=>(C.yG n).2.2
abbrev M.aeH(k:Int×Bool×Bool×Bool×Bool->Option R):=k (1,false,false,false,false)
def M.oz:Option (Int×Bool×Bool×Bool×Bool):=M.aeH some
def C.oz:=fTa S.oz (λx=>M.aeH)
abbrev M.Eh(x' low high:Int)(k:Bool->Option R):=cond (decide (x'>=low)) (k (decide (x'<=high))) (k false)
def M.dP x' low high:=M.Eh x' low high some
def C.dP:=fTa S.dP (λx=>M.Eh x.1.1 x.1.2.1 x.1.2.2.1)
def M.BP(l:au)(i:Int)(x':au)(s:Int×Int)(kn:Int×Int->Option R)(ke:(Unit)⊕(Int×Int)->Option R):Option R:=match s with
 |(at',k')=>bif decide (k'>=0) then((idx l i).bind λc=>(cSl 1 c 4).bind λd=>(idx d k').bind λe=>(jD .i64 e 0).bind λa=>bif a !=i64.wrap (at' - 1) then(ke (.inl ())) else bif at'==0 then(ke (.inl ())) else (idx x' (i64.wrap (at' - 1))).bind λg=>(x'[(i64.wrap (at' - 1)).toNat]?).bind λf=>(jD .i64 f 0).bind λb=>kn (b,i64.wrap (k' - 1))) else ke (.inr (at',k'))
def M.Hw l i x' s:=M.BP l i x' s (λs=>some (Sum.inl s)) λt=>some (Sum.inr t)
def M.xP l i x' s:=fV (M.Hw l i x') s
def F.xP:LE X0 91:=le 7 (IC [dD 0 (pL false 5),dD 4 (pO 300000 0),dD 5 pI,dD 6 pI,dD 7 pI] [dD 300000 zbj]) (λx=>(x.1.va.1,x.1.va.2.1)) (λx s=>((x.1.1,(),x.1.2.2.1,s.1,s.2,()),(x.2.1,()))) (λx=> .sum (.leaf (Unit) (λt=>(Ex.ret,⟨[(2,V.own 300000 0),(3,ou false)],[(300000,Cell.arr false true 0 1 [])]⟩))) (.leaf (Int×Int) (λt=>(Ex.exit 2,⟨[(0,ET 5 x.1.1),(4,V.own 300000 0),(5,iY x.1.2.2.1),(6,iY t.1),(7,iY t.2),(24,ou false)],[(300000,Cell.arr false true 0 1 x.2.1)]⟩)))) (λx=>M.BP x.1.1 x.1.2.2.1 x.2.1) [] [] (by rintro _ _ ⟨_,_⟩ _ _<;>simp only[M.BP,nb]<;>rfl)
def M.BQ(l:au)(s:Int×au)(kn:Int×au->Option R)(ke:(Unit)⊕(Int×au)->Option R):Option R:=match s with
 |(i,x')=>bif decide (i<(↑l.length:Int)) then((idx l i).bind λd=>(cSl 1 d 4).bind λc=>(M.xP l i x' (i,i64.wrap ((↑c.length:Int) - 1))).bind λa=>kD a (λg=>ke (.inl ())) λe=>letE e λb=>oV x' [[D.int .i64 b.1]] 8 λf=>kn (i64.wrap (i+1),f)) else ke (.inr (i,x'))
def M.Hy l s:=M.BQ l s (λs=>some (Sum.inl s)) λt=>some (Sum.inr t)
def M.xQ l s:=fV (M.Hy l) s
def F.xQ:LE X0 91:=le 3 (IC [dD 0 (pL false 5),dD 4 (pO 300000 0),dD 5 pI] [dD 300000 zbj]) (λx=>(x.1.2.2.1,x.2.1)) (λx s=>((x.1.1,(),s.1,()),(s.2,()))) (λx=> .sum (.leaf (Unit) (λt=>(Ex.ret,⟨[(2,V.own 300000 0),(3,ou false)],[(300000,Cell.arr false true 0 1 [])]⟩))) (.leaf (Int×au) (λt=>(Ex.exit 0,⟨[(0,ET 5 x.1.1),(4,V.own 300000 0),(5,iY t.1),(12,ou false)],[(300000,Cell.arr false true 0 1 t.2)]⟩)))) (λx=>M.BQ x.1.1) [] [F.xP] (by rintro _ _ ⟨_,_⟩ _ _<;>simp only[oV,M.BQ,nb]<;>rfl)
abbrev M.NM(l:au)(k:au×Bool->Option R):=(M.xQ l (0,[])).bind λb=>kD b (λd=>k ([],false)) λc=>letE c λa=>cond (aj a.2) (k (a.2,true)) none
def M.E8 l:=M.NM l some
def C.E8:=fTa S.E8 (λx=>M.NM x.1.1) [] [F.xQ]
abbrev M.PU(l:au)(k:Bool->Option R):=(M.dP ((↑l.length:Int)) 1 400).bind λd=>cond (!d) (k false) ((M.E8 l).bind λa=>cond a.2 ((idx a.1 (i64.wrap ((↑l.length:Int) - 1))).bind λe=>(a.1[(i64.wrap ((↑l.length:Int) - 1)).toNat]?).bind λc=>(jD .i64 c 0).bind λb=>k (b==0)) (k false))
def M.yB l:=M.PU l some
def C.yB:=fTa S.yB (λx=>M.PU x.1.1) [fe C.dP,fe C.E8]
def M.Ei(l:au)(i:Int)(x':au)(s:Int×Int)(kn:Int×Int->Option R)(ke:Int×Int->Option R):Option R:=match s with
 |(n',k')=>(idx l i).bind λc=>(cSl 1 c 4).bind λe=>bif decide (k'<(↑e.length:Int)) then((idx l i).bind λg=>(cSl 1 g 4).bind λh=>(idx h k').bind λd=>(jD .i64 d 0).bind λb=>(idx x' b).bind λj=>x'[b.toNat]?.bind λf=>(jD .i64 f 0).bind λa=>kn (bif decide (n'<i64.wrap (1+a)) then i64.wrap (1+a) else n',i64.wrap (k'+1))) else ke (n',k')
def M.Jq l i x' s:=M.Ei l i x' s (λs=>some (Sum.inl s)) λt=>some (Sum.inr t)
def M.II l i x' s:=fV (M.Jq l i x') s
def F.II:LE X0 57:=le 9 (IC [dD 0 (pL false 5),dD 3 (pO 300000 0),dD 4 pI,dD 5 pI,dD 6 pI] [dD 300000 zbj]) (λx=>(x.1.va.1,x.1.va.2.1)) (λx s=>((x.1.1,(),x.1.2.2.1,s.1,s.2,()),(x.2.1,()))) (λx=> .leaf (Int×Int) (λt=>(Ex.exit 2,⟨[(0,ET 5 x.1.1),(3,V.own 300000 0),(4,iY x.1.2.2.1),(5,iY t.1),(6,iY t.2),(24,ou false)],[(300000,Cell.arr false true 0 1 x.2.1)]⟩))) (λx=>M.Ei x.1.1 x.1.2.2.1 x.2.1) [] [] (by rintro _ _ ⟨_,_⟩ _ _<;>simp only[M.Ei,nb]<;>rfl)
def M.Ej(l:au)(s:Int×au)(kn:Int×au->Option R)(ke:Int×au->Option R):Option R:=match s with
 |(i,x')=>bif decide (i<(↑l.length:Int)) then((M.II l i x' (1,0)).bind λa=>oV x' [[D.int .i64 a.1]] 8 λb=>kn (i64.wrap (i+1),b)) else ke (i,x')
def M.Jr l s:=M.Ej l s (λs=>some (Sum.inl s)) λt=>some (Sum.inr t)
def M.NP l s:=fV (M.Jr l) s
def F.NP:LE X0 57:=le 5 (IC [dD 0 (pL false 5),dD 3 (pO 300000 0),dD 4 pI] [dD 300000 zbj]) (λx=>(x.1.2.2.1,x.2.1)) (λx s=>((x.1.1,(),s.1,()),(s.2,()))) (λx=> .leaf (Int×au) (λt=>(Ex.exit 0,⟨[(0,ET 5 x.1.1),(3,V.own 300000 0),(4,iY t.1),(14,ou false)],[(300000,Cell.arr false true 0 1 t.2)]⟩))) (λx=>M.Ej x.1.1) [] [F.II] (by rintro _ _ ⟨_,_⟩ _ _<;>simp only[oV,M.Ej,nb]<;>rfl)
abbrev M.PV(l:au)(k:Int->Option R):=(M.yB l).bind λc=>cond (!c) (k 0) ((M.NP l (0,[])).bind λa=>(idx a.2 (i64.wrap ((↑l.length:Int) - 1))).bind λe=>(a.2[(i64.wrap ((↑l.length:Int) - 1)).toNat]?).bind λd=>(jD .i64 d 0).bind λb=>k b)
def M.DU l:=M.PV l some
def C.DU:=fTa S.DU (λx=>M.PV x.1.1) [fe C.yB] [F.NP]
abbrev M.aT(n' kC:Int)(ny oM:aC)(sV:au)(k:Int×Int->Option R):=cond (n'==5) (k (1,6)) (cond (n'==13) (k (1,6)) (cond (n'==7) (k (0,6)) (cond (n'==8) (k (0,6)) (cond (n'==27) (k (0,6)) (cond (n'==6) (k (1,1)) (cond (n'==9) (k (1,1)) (cond (n'==10) (k (1,1)) (cond (n'==11) (k (1,1)) (cond (n'==20) (k (1,1)) (cond (n'==32) (k (1,1)) (cond (n'==40) (k (1,1)) (cond (n'==41) (k (1,1)) (cond (n'==12) (k (2,2)) (cond (n'==15) (k (2,2)) (cond (n'==29) (k (2,2)) (cond (n'==30) (k (2,2)) (cond (n'==14) (k (3,3)) (cond (n'==21) (cond (!oM==[]) (k (i64.wrap (kC+1),7)) (k (kC,6))) (cond (n'==23) (k (0,1)) (cond (n'==24) (k (0,1)) (cond (n'==28) (k (2,3)) (cond (n'==31) (k (4,4)) (cond (n'==33) (k (0,(↑sV.length:Int))) (cond (n'==45) (k (0,(↑sV.length:Int))) (cond (n'==42) (k (i64.wrap (1+i64.wrap (kC.tdiv 3)),i64.wrap (1+i64.wrap (kC.tdiv 3)))) (cond (n'==43) (k (i64.wrap (2+i64.wrap (kC.tdiv 3)),i64.wrap (2+i64.wrap (kC.tdiv 3)))) (cond (n'==44) (k (1,7)) (k (0,0)))))))))))))))))))))))))))))
def M.bg n' kC ny oM sV:=M.aT n' kC ny oM sV some
def C.bg:=fTa S.bg (λx=>M.aT x.1.1.1 x.1.1.2.1 x.1.1.2.2.1 x.1.1.va.1 x.1.1.va.2.1)
abbrev M.PW(op':Int)(k:Bool->Option R):=cond (op'==60) (k true) (cond (op'==57) (k true) (cond (op'==58) (k true) (cond (op'==59) (k true) (cond (op'==55) (k true) (cond (op'==56) (k true) (cond (op'==99) (k true) (cond (op'==63) (k true) (cond (op'==48) (k true) (cond (op'==47) (k true) (cond (op'==50) (k true) (cond (op'==62) (k true) (cond (op'==49) (k true) (cond (op'==67) (k true) (cond (op'==46) (k true) (cond (op'==45) (k true) (cond (op'==44) (k true) (k false)))))))))))))))))
def M.DV op':=M.PW op' some
def C.DV:=fTa S.DV (λx=>M.PW x.1.1)
abbrev M.Js(op':Int)(k:Bool->Option R):=cond (op'==54) (k true) ((M.dP op' 38 43).bind λa=>k a)
def M.wY op':=M.Js op' some
def C.wY:=fTa S.wY (λx=>M.Js x.1.1) [fe C.dP]
abbrev M.bG(n' kC:Int)(ny oM:aC)(sV:au)(k:Bool->Option R):=cond (n'==9) (cond (kC==51) (k true) (k (kC==52))) (cond (n'==10) (cond (kC==51) (k true) (k (kC==52))) (cond (n'==11) (cond (kC==55) (k true) (cond (kC==56) (k true) (k (kC==61)))) (cond (n'==12) ((M.DV kC).bind λd=>k d) (cond (n'==15) ((M.wY kC).bind λb=>k b) (cond (n'==21) ((M.dP kC 0 1).bind λc=>k c) (cond (n'==42) ((M.dP kC 1 3).bind λa=>k a) (cond (n'==43) (cond (kC==1) (k true) (k (kC==3))) (k (kC==0)))))))))
def M.bW n' kC ny oM sV:=M.bG n' kC ny oM sV some
def C.bW:=fTa S.bW (λx=>M.bG x.1.1.1 x.1.1.2.1 x.1.1.2.2.1 x.1.1.va.1 x.1.1.va.2.1) [fe C.DV,fe C.wY,fe C.dP]
abbrev M.NQ(b:Int)(k:Bool->Option R):=(M.dP b 97 122).bind λa=>cond a (k true) ((M.dP b 65 90).bind λc=>cond c (k true) (k (b==95)))
def M.mP b:=M.NQ b some
def C.mP:=fTa S.mP (λx=>M.NQ x.1.1) [fe C.dP]
abbrev M.PX(b:Int)(k:Bool->Option R):=(M.dP b 48 57).bind λa=>k a
def M.tJ b:=M.PX b some
def C.tJ:=fTa S.tJ (λx=>M.PX x.1.1) [fe C.dP]
abbrev M.Jt(b:Int)(k:Bool->Option R):=(M.mP b).bind λc=>cond c (k true) ((M.tJ b).bind λa=>k a)
def M.jL b:=M.Jt b some
def C.jL:=fTa S.jL (λx=>M.Jt x.1.1) [fe C.mP,fe C.tJ]
def M.zQ(s':aC)(s:Int)(kn:Int->Option R)(ke:(Unit)⊕(Int)->Option R):Option R:=match s with
 |i=>bif decide (i<(↑s'.length:Int)) then((idx s' i).bind λb=>(M.jL (i64.wrap (↑b.toNat:Int))).bind λa=>bif !a then(ke (.inl ())) else kn (i64.wrap (i+1))) else ke (.inr i)
def M.FM s' s:=M.zQ s' s (λs=>some (Sum.inl s)) λt=>some (Sum.inr t)
def M.Ju s' s:=fV (M.FM s') s
def F.Ju:LE X0 43:=le 2 (IC [dD 0 pS,dD 3 pI] []) (λx=>x.1.2.1) (λx s=>((x.1.1,s,()),())) (λx=> .sum (.leaf (Unit) (λt=>(Ex.ret,⟨[(2,ou false)],[]⟩))) (.leaf (Int) (λt=>(Ex.exit 0,⟨[(0,qU x.1.1),(3,iY t),(7,ou false)],[]⟩)))) (λx=>M.zQ x.1.1) [fe C.jL] [] (by rintro _ _ _ _ _<;>simp only[M.zQ,nb]<;>rfl)
abbrev M.Ll(s':aC)(k:Bool->Option R):=(M.Ju s' 0).bind λb=>kD b (λg=>k false) λc=>letE c λf=>(M.dP ((↑s'.length:Int)) 1 12).bind λd=>cond d ((idx s' 0).bind λa=>(M.mP (i64.wrap (↑a.toNat:Int))).bind λe=>k e) (k false)
def M.qp s':=M.Ll s' some
def C.qp:=fTa S.qp (λx=>M.Ll x.1.1) [fe C.dP,fe C.mP] [F.Ju]
abbrev M.VR(k:au->Option R):=k ([[D.str [66,69,71,73,78]],[D.str [69,78,68]],[D.str [102,117,110,99,116,105,111,110]],[D.str [105,102]],[D.str [101,108,115,101]],[D.str [119,104,105,108,101]],[D.str [102,111,114]],[D.str [100,111]],[D.str [98,114,101,97,107]],[D.str [99,111,110,116,105,110,117,101]],[D.str [110,101,120,116]],[D.str [101,120,105,116]],[D.str [114,101,116,117,114,110]],[D.str [100,101,108,101,116,101]],[D.str [105,110]],[D.str [112,114,105,110,116]],[D.str [112,114,105,110,116,102]]])
def M.Am:Option (au):=M.VR some
def C.Am:=fTa S.Am (λx=>M.VR)
def M.Gf(l:au)(s':aC)(s:Int)(kn:Int->Option R)(ke:(Int)⊕(Int)->Option R):Option R:=match s with
 |i=>bif decide (i<(↑l.length:Int)) then((idx l i).bind λa=>(cStr a 0).bind λb=>bif b==s' then(ke (.inl i)) else kn (i64.wrap (i+1))) else ke (.inr i)
def M.Lm l s' s:=M.Gf l s' s (λs=>some (Sum.inl s)) λt=>some (Sum.inr t)
def M.PY l s' s:=fV (M.Lm l s') s
def F.PY:LE X0 124:=le 2 (IC [dD 0 (pL false 1),dD 1 pS,dD 5 pI] []) (λx=>x.1.2.2.1) (λx s=>((x.1.1,x.1.2.1,s,()),())) (λx=> .sum (.leaf (Int) (λt=>(Ex.ret,⟨[(4,iY t)],[]⟩))) (.leaf (Int) (λt=>(Ex.exit 0,⟨[(0,ET 1 x.1.1),(1,qU x.1.2.1),(5,iY t),(9,ou false)],[]⟩)))) (λx=>M.Gf x.1.1 x.1.2.1) [] [] (by rintro _ _ _ _ _<;>simp only[M.Gf,nb]<;>rfl)
abbrev M.SK(l:au)(s':aC)(k:Int->Option R):=(M.PY l s' 0).bind λb=>kD b (λa=>k a) λc=>letE c λd=>k (-1)
def M.Bf l s':=M.SK l s' some
def C.Bf:=fTa S.Bf (λx=>M.SK x.1.1 x.1.2.1) [] [F.PY]
abbrev M.Lp(s':aC)(k:Int->Option R):=M.Am.bind λb=>(M.Bf b s').bind λa=>cond (decide (a<0)) (k 0) (k (i64.wrap (10+a)))
def M.qw s':=M.Lp s' some
def C.qw:=fTa S.qw (λx=>M.Lp x.1.1) [fe C.Am,fe C.Bf]
abbrev M.Jv(k:au->Option R):=k ([[D.str [97,116,97,110,50]],[D.str [99,108,111,115,101]],[D.str [99,111,115]],[D.str [101,120,112]],[D.str [103,115,117,98]],[D.str [105,110,100,101,120]],[D.str [105,110,116]],[D.str [108,101,110,103,116,104]],[D.str [108,111,103]],[D.str [109,97,116,99,104]],[D.str [114,97,110,100]],[D.str [115,105,110]],[D.str [115,112,108,105,116]],[D.str [115,112,114,105,110,116,102]],[D.str [115,113,114,116]],[D.str [115,114,97,110,100]],[D.str [115,117,98]],[D.str [115,117,98,115,116,114]],[D.str [115,121,115,116,101,109]],[D.str [116,111,108,111,119,101,114]],[D.str [116,111,117,112,112,101,114]]])
def M.qM:Option (au):=M.Jv some
def C.qM:=fTa S.qM (λx=>M.Jv)
abbrev M.Lr(s':aC)(k:Bool->Option R):=M.qM.bind λb=>(M.Bf b s').bind λa=>k (decide (a>=0))
def M.kY s':=M.Lr s' some
def C.kY:=fTa S.kY (λx=>M.Lr x.1.1) [fe C.qM,fe C.Bf]
abbrev M.SN(s':aC)(k:Bool->Option R):=(M.qp s').bind λa=>cond a ((M.qw s').bind λc=>cond (c==0) ((M.kY s').bind λb=>k !b) (k false)) (k false)
def M.kL s':=M.SN s' some
def C.kL:=fTa S.kL (λx=>M.SN x.1.1) [fe C.qp,fe C.qw,fe C.kY]
def M.Em(s':aC)(s:Int)(kn:Int->Option R)(ke:(Unit)⊕(Int)->Option R):Option R:=match s with
 |i=>bif decide (i<(↑s'.length:Int)) then((idx s' i).bind λa=>bif(↑a.toNat:Int)==10 then(ke (.inl ())) else kn (i64.wrap (i+1))) else ke (.inr i)
def M.En s' s:=M.Em s' s (λs=>some (Sum.inl s)) λt=>some (Sum.inr t)
def M.NR s' s:=fV (M.En s') s
def F.NR:LE X0 173:=le 2 (IC [dD 0 pS,dD 3 pI] []) (λx=>x.1.2.1) (λx s=>((x.1.1,s,()),())) (λx=> .sum (.leaf (Unit) (λt=>(Ex.ret,⟨[(2,ou false)],[]⟩))) (.leaf (Int) (λt=>(Ex.exit 0,⟨[(0,qU x.1.1),(3,iY t),(7,ou false)],[]⟩)))) (λx=>M.Em x.1.1) [] [] (by rintro _ _ _ _ _<;>simp only[M.Em,nb]<;>rfl)
abbrev M.PZ(s':aC)(k:Bool->Option R):=(M.NR s' 0).bind λb=>kD b (λd=>k false) λa=>letE a λc=>k true
def M.yC s':=M.PZ s' some
def C.yC:=fTa S.yC (λx=>M.PZ x.1.1) [] [F.NR]
abbrev M.SQ(s':aC)(at':Int)(k:Int->Option R):=cond (decide (at'<0)) (k (-1)) (cond (decide (at'>=(↑s'.length:Int))) (k (-1)) ((idx s' at').bind λa=>k (i64.wrap (↑a.toNat:Int))))
def M.gG s' at':=M.SQ s' at' some
def C.gG:=fTa S.gG (λx=>M.SQ x.1.1 x.1.2.1)
def M.Hz(s':aC)(s:Int)(kn:Int->Option R)(ke:Int->Option R):Option R:=match s with
 |at'=>(M.gG s' at').bind λb=>(M.tJ b).bind λa=>bif a then(kn (i64.wrap (at'+1))) else ke at'
def M.VT s' s:=M.Hz s' s (λs=>some (Sum.inl s)) λt=>some (Sum.inr t)
def M.Ls s' s:=fV (M.VT s') s
def F.Ls:LE X0 74:=le 1 (IC [dD 0 pS,dD 1 pI] []) (λx=>x.1.2.1) (λx s=>((x.1.1,s,()),())) (λx=> .leaf (Int) (λt=>(Ex.exit 0,⟨[(0,qU x.1.1),(1,iY t),(8,ou false)],[]⟩))) (λx=>M.Hz x.1.1) [fe C.gG,fe C.tJ] [] (by rintro _ _ _ _ _<;>simp only[M.Hz,nb]<;>rfl)
abbrev M.NS(s':aC)(at':Int)(k:Int->Option R):=(M.Ls s' at').bind λa=>k a
def M.fQ s' at':=M.NS s' at' some
def C.fQ:=fTa S.fQ (λx=>M.NS x.1.1 x.1.2.1) [] [F.Ls]
abbrev M.yS(s':aC)(QX:Int)(k:Int->Option R):=(M.gG s' (i64.wrap (QX+1))).bind λa=>cond (a==43) ((M.fQ s' (i64.wrap (i64.wrap (QX+1)+1))).bind λb=>cond (decide (b>i64.wrap (i64.wrap (QX+1)+1))) ((M.fQ s' (i64.wrap (i64.wrap (QX+1)+1))).bind λh=>k h) (k QX)) ((M.gG s' (i64.wrap (QX+1))).bind λc=>cond (c==45) ((M.fQ s' (i64.wrap (i64.wrap (QX+1)+1))).bind λf=>cond (decide (f>i64.wrap (i64.wrap (QX+1)+1))) ((M.fQ s' (i64.wrap (i64.wrap (QX+1)+1))).bind λe=>k e) (k QX)) ((M.fQ s' (i64.wrap (QX+1))).bind λg=>cond (decide (g>i64.wrap (QX+1))) ((M.fQ s' (i64.wrap (QX+1))).bind λd=>k d) (k QX)))
def M.SS(s':aC)(at':Int)(k:Int->Option R):=cond (decide (at'<0)) (k (-1)) ((M.fQ s' at').bind λa=>(M.gG s' a).bind λd=>cond (d==46) ((M.fQ s' (i64.wrap (a+1))).bind λb=>cond (a==at') (cond (b==i64.wrap (a+1)) (k (-1)) (cond (b==at') (k (-1)) ((M.gG s' b).bind λh=>cond (h==101) (M.yS s' b k) ((M.gG s' b).bind λc=>cond (c==69) (M.yS s' b k) (k b))))) (cond (b==at') (k (-1)) ((M.gG s' b).bind λi=>cond (i==101) (M.yS s' b k) ((M.gG s' b).bind λg=>cond (g==69) (M.yS s' b k) (k b))))) (cond (a==at') (k (-1)) ((M.gG s' a).bind λf=>cond (f==101) (M.yS s' a k) ((M.gG s' a).bind λe=>cond (e==69) (M.yS s' a k) (k a)))))
def M.yM s' at':=M.SS s' at' some
def C.yM:S.yM.ok X0 λx=>M.yM x.1.1 x.1.2.1:=fnS (λx=>M.SS x.1.1 x.1.2.1) [fe C.fQ,fe C.gG] [] (by intros;unfold M.SS M.yS;exact zbI)
def M.xR(s':aC)(sign s:Int)(kn:Int->Option R)(ke:(Int)⊕(Int)->Option R):Option R:=match s with
 |i=>bif decide (i<(↑s'.length:Int)) then((idx s' i).bind λa=>bif i64.wrap (↑a.toNat:Int)==sign then(ke (.inl (i64.wrap (i+1)))) else bif i64.wrap (↑a.toNat:Int)==10 then(ke (.inl (-1))) else bif i64.wrap (↑a.toNat:Int)==92 then((M.gG s' (i64.wrap (i+1))).bind λb=>bif b==10 then(ke (.inl (-1))) else kn (i64.wrap (i64.wrap (i+1)+1))) else kn (i64.wrap (i+1))) else ke (.inr i)
def M.BR s' sign s:=M.xR s' sign s (λs=>some (Sum.inl s)) λt=>some (Sum.inr t)
def M.xU s' sign s:=fV (M.BR s' sign) s
def F.xU:LE X0 75:=le 4 (IC [dD 0 pS,dD 2 pI,dD 7 pI] []) (λx=>x.1.2.2.1) (λx s=>((x.1.1,x.1.2.1,s,()),())) (λx=> .sum (.leaf (Int) (λt=>(Ex.ret,⟨[(6,iY t)],[]⟩))) (.leaf (Int) (λt=>(Ex.exit 0,⟨[(0,qU x.1.1),(2,iY x.1.2.1),(7,iY t),(18,ou false)],[]⟩)))) (λx=>M.xR x.1.1 x.1.2.1) [fe C.gG] [] (by rintro _ _ _ _ _<;>simp only[M.xR,nb]<;>rfl)
abbrev M.NT(s':aC)(at' sign:Int)(k:Int->Option R):=(M.gG s' at').bind λd=>cond (d !=sign) (k (-1)) ((M.xU s' sign (i64.wrap (at'+1))).bind λa=>kD a (λb=>k b) λc=>letE c λe=>k (-1))
def M.vF s' at' sign:=M.NT s' at' sign some
def C.vF:=fTa S.vF (λx=>M.NT x.1.1 x.1.2.1 x.1.2.2.1) [fe C.gG] [F.xU]
abbrev M.SV(s':aC)(at':Int)(k:Int->Option R):=(M.vF s' at' 34).bind λa=>k a
def M.Bg s' at':=M.SV s' at' some
def C.Bg:=fTa S.Bg (λx=>M.SV x.1.1 x.1.2.1) [fe C.vF]
abbrev M.SY(s':aC)(at':Int)(k:Int->Option R):=(M.vF s' at' 47).bind λa=>cond (a==i64.wrap (at'+2)) (k (-1)) (k a)
def M.Bh s' at':=M.SY s' at' some
def C.Bh:=fTa S.Bh (λx=>M.SY x.1.1 x.1.2.1) [fe C.vF]
abbrev M.VU(k:au->Option R):=k ([[D.str [123]],[D.str [125]],[D.str [40]],[D.str [41]],[D.str [91]],[D.str [93]],[D.str [44]],[D.str [59]],[D.str [43,61]],[D.str [45,61]],[D.str [42,61]],[D.str [47,61]],[D.str [37,61]],[D.str [94,61]],[D.str [124,124]],[D.str [38,38]],[D.str [33,126]],[D.str [61,61]],[D.str [60,61]],[D.str [62,61]],[D.str [33,61]],[D.str [43,43]],[D.str [45,45]],[D.str [62,62]],[D.str [61]],[D.str [43]],[D.str [45]],[D.str [42]],[D.str [47]],[D.str [37]],[D.str [94]],[D.str [33]],[D.str [62]],[D.str [60]],[D.str [124]],[D.str [63]],[D.str [58]],[D.str [126]],[D.str [36]]])
def M.Ap:Option (au):=M.VU some
def C.Ap:=fTa S.Ap (λx=>M.VU)
abbrev M.P5(kind:Int)(k:aC->Option R):=cond (kind==1) (k [10]) ((M.dP kind 10 26).bind λd=>cond d (M.Am.bind λa=>(idx a (i64.wrap (kind - 10))).bind λj=>(a[(i64.wrap (kind - 10)).toNat]?).bind λg=>(cStr g 0).bind λf=>k f) ((M.dP kind 30 68).bind λc=>cond c (M.Ap.bind λb=>(idx b (i64.wrap (kind - 30))).bind λi=>(b[(i64.wrap (kind - 30)).toNat]?).bind λh=>(cStr h 0).bind λe=>k e) (k [])))
def M.jO kind:=M.P5 kind some
def C.jO:=fTa S.jO (λx=>M.P5 x.1.1) [fe C.dP,fe C.Am,fe C.Ap]
abbrev M.P6(t':Int)(Iw:aC)(UM:Int)(k:Bool->Option R):=cond (t'==2) (cond (decide ((↑Iw.length:Int)>0)) ((idx Iw 0).bind λd=>cond ((↑d.toNat:Int)==35) ((M.yC Iw).bind λh=>k h) (k false)) (k false)) (cond (t'==3) (cond (decide ((↑Iw.length:Int)>0)) ((M.yM Iw 0).bind λg=>k (g==(↑Iw.length:Int))) (k false)) (cond (t'==4) ((M.Bg Iw 0).bind λf=>k (f==(↑Iw.length:Int))) (cond (t'==5) ((M.Bh Iw 0).bind λi=>k (i==(↑Iw.length:Int))) (cond (t'==6) ((M.kL Iw).bind λb=>k b) (cond (t'==7) ((M.kL Iw).bind λe=>k e) (cond (t'==8) ((M.kY Iw).bind λc=>k c) (cond (!Iw==[]) ((M.jO t').bind λa=>k (a==Iw)) (k false))))))))
def M.nM t' Iw UM:=M.P6 t' Iw UM some
def C.nM:=fTa S.nM (λx=>M.P6 x.1.1.1 x.1.1.2.1 x.1.1.2.2.1) [fe C.yC,fe C.yM,fe C.Bg,fe C.Bh,fe C.kL,fe C.kY,fe C.jO]
abbrev M.aU(n' kC:Int)(ny oM:aC)(sV:au)(k:Bool->Option R):=cond (n'==1) ((M.kL ny).bind λi=>cond i (k (oM==[])) (k false)) (cond (n'==5) ((M.kL ny).bind λd=>cond d (k (oM==[])) (k false)) (cond (n'==7) ((M.kL ny).bind λa=>cond a (k (oM==[])) (k false)) (cond (n'==13) ((M.kL ny).bind λc=>cond c (k (oM==[])) (k false)) (cond (n'==27) ((M.kL ny).bind λm=>cond m (k (oM==[])) (k false)) (cond (n'==44) ((M.kL ny).bind λb=>cond b (k (oM==[])) (k false)) (cond (n'==2) ((M.nM 3 ny 0).bind λe=>cond e (k (oM==[])) (k false)) (cond (n'==3) ((M.nM 4 ny 0).bind λn=>cond n (k (oM==[])) (k false)) (cond (n'==4) ((M.nM 5 ny 0).bind λg=>cond g (k (oM==[])) (k false)) (cond (n'==34) ((M.nM 2 ny 0).bind λj=>cond j (k (oM==[])) (k false)) (cond (n'==8) ((M.kY ny).bind λl=>cond l (k (oM==[])) (k false)) (cond (n'==32) ((M.kL ny).bind λf=>cond f ((M.kL oM).bind λh=>k h) (k false)) (cond (n'==21) (cond (ny==[]) (cond (oM==[]) (k true) (cond (oM==[62]) (k true) (cond (oM==[62,62]) (k true) (k (oM==[124]))))) (k false)) (cond (ny==[]) (k (oM==[])) (k false))))))))))))))
def M.bn n' kC ny oM sV:=M.aU n' kC ny oM sV some
def C.bn:=fTa S.bn (λx=>M.aU x.1.1.1 x.1.1.2.1 x.1.1.2.2.1 x.1.1.va.1 x.1.1.va.2.1) [fe C.kL,fe C.nM,fe C.kY]
abbrev M.aK(n' kC:Int)(ny oM:aC)(sV:au)(k:Bool->Option R):=(M.bg n' kC ny oM sV).bind λa=>(M.dP n' 1 16).bind λg=>cond g ((M.bW n' kC ny oM sV).bind λj=>cond j ((M.bn n' kC ny oM sV).bind λd=>cond d ((M.dP ((↑sV.length:Int)) a.1 a.2).bind λf=>k f) (k false)) (k false)) ((M.dP n' 20 34).bind λi=>cond i ((M.bW n' kC ny oM sV).bind λb=>cond b ((M.bn n' kC ny oM sV).bind λl=>cond l ((M.dP ((↑sV.length:Int)) a.1 a.2).bind λc=>k c) (k false)) (k false)) ((M.dP n' 40 45).bind λn=>cond n ((M.bW n' kC ny oM sV).bind λh=>cond h ((M.bn n' kC ny oM sV).bind λm=>cond m ((M.dP ((↑sV.length:Int)) a.1 a.2).bind λe=>k e) (k false)) (k false)) (k false)))
def M.aG n' kC ny oM sV:=M.aK n' kC ny oM sV some
def C.aG:=fTa S.aG (λx=>M.aK x.1.1.1 x.1.1.2.1 x.1.1.2.2.1 x.1.1.va.1 x.1.1.va.2.1) [fe C.bg,fe C.dP,fe C.bW,fe C.bn]
abbrev M.NU(kind:Int)(k:Bool->Option R):=cond (kind==1) (k true) (cond (kind==5) (k true) (k (kind==6)))
def M.vG kind:=M.NU kind some
def C.vG:=fTa S.vG (λx=>M.NU x.1.1)
abbrev M.S9(kind:Int)(k:Bool->Option R):=(M.dP kind 1 15).bind λa=>k a
def M.lH kind:=M.S9 kind some
def C.lH:=fTa S.lH (λx=>M.S9 x.1.1) [fe C.dP]
abbrev M.Tc(kind:Int)(k:Bool->Option R):=(M.dP kind 20 34).bind λa=>k a
def M.G8 kind:=M.Tc kind some
def C.G8:=fTa S.G8 (λx=>M.Tc x.1.1) [fe C.dP]
abbrev M.aQ(kC k':Int)(sV:au)(kind:Int)(k:Bool->Option R):=cond (kC==3) (cond (k'==i64.wrap ((↑sV.length:Int) - 1)) (cond (kind==33) (k true) (cond (!k'==i64.wrap ((↑sV.length:Int) - 1)) ((M.lH kind).bind λb=>k b) (k false))) (cond (!k'==i64.wrap ((↑sV.length:Int) - 1)) ((M.lH kind).bind λa=>k a) (k false))) (k false)
def M.aY(n' kC:Int)(ny oM:aC)(sV:au)(k' kind:Int)(k:Bool->Option R):=cond (n'==9) ((M.vG kind).bind λj=>k j) (cond (n'==10) ((M.vG kind).bind λe=>k e) (cond (n'==15) ((M.lH kind).bind λm=>cond m (cond (decide (k'>0)) (k true) ((M.vG kind).bind λo=>k o)) (k false)) (cond (n'==28) (cond (k'==0) ((M.lH kind).bind λg=>cond g (k true) (cond (decide (k'>0)) (k (kind==33)) (k false))) (cond (decide (k'>0)) (k (kind==33)) (k false))) (cond (n'==29) (cond (k'==0) ((M.lH kind).bind λa=>cond a (k true) (cond (k'==1) (k (kind==33)) (k false))) (cond (k'==1) (k (kind==33)) (k false))) (cond (n'==30) (cond (k'==0) (cond (kind==33) (k true) (cond (k'==1) ((M.lH kind).bind λb=>k b) (k false))) (cond (k'==1) ((M.lH kind).bind λl=>k l) (k false))) (cond (n'==31) (cond (decide (k'<3)) ((M.lH kind).bind λi=>cond i (k true) (cond (kind==16) (k true) (cond (k'==3) (k (kind==33)) (k false)))) (cond (k'==3) (k (kind==33)) (k false))) (cond (n'==32) (k (kind==33)) (cond (n'==40) (k (kind==33)) (cond (n'==41) (k (kind==33)) (cond (n'==33) ((M.G8 kind).bind λf=>k f) (cond (n'==42) (cond (kC==1) ((M.lH kind).bind λc=>cond c (k true) (cond (kC==2) (cond (kind==33) (k true) (M.aQ kC k' sV kind k)) (M.aQ kC k' sV kind k))) (cond (kC==2) (cond (kind==33) (k true) (M.aQ kC k' sV kind k)) (M.aQ kC k' sV kind k))) (cond (n'==43) (cond (decide (k'<2)) ((M.lH kind).bind λd=>cond d (k true) (cond (k'==2) (k (kind==33)) (k false))) (cond (k'==2) (k (kind==33)) (k false))) (cond (n'==44) (cond (k'==i64.wrap ((↑sV.length:Int) - 1)) (cond (kind==33) (k true) (cond (!k'==i64.wrap ((↑sV.length:Int) - 1)) (k (kind==1)) (k false))) (cond (!k'==i64.wrap ((↑sV.length:Int) - 1)) (k (kind==1)) (k false))) (cond (n'==45) ((M.dP kind 40 44).bind λn=>cond n (k true) (k (kind==34))) ((M.lH kind).bind λh=>k h)))))))))))))))
def M.aW n' kC ny oM sV k' kind:=M.aY n' kC ny oM sV k' kind some
def C.aW:S.aW.ok X0 λx=>ng M.aW x.1.1 x.1.2.1 x.1.2.2.1:=fnS (λx=>M.aY x.1.1.1 x.1.1.2.1 x.1.1.2.2.1 x.1.1.va.1 x.1.1.va.2.1 x.1.2.1 x.1.2.2.1) [fe C.vG,fe C.lH,fe C.G8,fe C.dP] [] (by intros;unfold M.aY M.aQ;exact zbI)
def M.Gg(l:au)(i s:Int)(kn:Int->Option R)(ke:(Unit)⊕(Int)->Option R):Option R:=match s with
 |k'=>(idx l i).bind λh=>(cSl 1 h 4).bind λd=>bif decide (k'<(↑d.length:Int)) then((idx l i).bind λc=>JY 1 c λn306 n307 aXe aXf aCz=>((idx l i).bind λe=>(cSl 1 e 4).bind λg=>(idx g k').bind λk=>(jD .i64 k 0).bind λb=>(idx l b).bind λj=>(jD .i64 j 0).bind λa=>(M.aW n306 n307 aXe aXf aCz k' a).bind λf=>bif !f then(ke (.inl ())) else kn (i64.wrap (k'+1)))) else ke (.inr k')
def M.Rz l i s:=M.Gg l i s (λs=>some (Sum.inl s)) λt=>some (Sum.inr t)
def M.Ko l i s:=fV (M.Rz l i) s
def F.Ko:LE X0 29:=le 9 (IC [dD 0 (pL false 5),dD 3 pI,dD 4 pI] []) (λx=>x.1.2.2.1) (λx s=>((x.1.1,x.1.2.1,s,()),())) (λx=> .sum (.leaf (Unit) (λt=>(Ex.ret,⟨[(2,ou false)],[]⟩))) (.leaf (Int) (λt=>(Ex.exit 2,⟨[(0,ET 5 x.1.1),(3,iY x.1.2.1),(4,iY t),(32,ou false)],[]⟩)))) (λx=>M.Gg x.1.1 x.1.2.1) [fe C.aW] [] (by rintro _ _ _ _ _<;>simp only[JY,M.Gg,nb]<;>rfl)
def M.Gi(l:au)(s:Int)(kn:Int->Option R)(ke:(Unit)⊕(Int)->Option R):Option R:=match s with
 |i=>bif decide (i<(↑l.length:Int)) then((idx l i).bind λc=>JY 1 c λn145 n146 aXh aXi aCB=>((M.aG n145 n146 aXh aXi aCB).bind λb=>bif !b then(ke (.inl ())) else (M.Ko l i 0).bind λa=>kD a (λf=>ke (.inl ())) λd=>letE d λe=>kn (i64.wrap (i+1)))) else ke (.inr i)
def M.RD l s:=M.Gi l s (λs=>some (Sum.inl s)) λt=>some (Sum.inr t)
def M.Kq l s:=fV (M.RD l) s
def F.Kq:LE X0 29:=le 4 (IC [dD 0 (pL false 5),dD 3 pI] []) (λx=>x.1.2.1) (λx s=>((x.1.1,s,()),())) (λx=> .sum (.leaf (Unit) (λt=>(Ex.ret,⟨[(2,ou false)],[]⟩))) (.leaf (Int) (λt=>(Ex.exit 0,⟨[(0,ET 5 x.1.1),(3,iY t),(16,ou false)],[]⟩)))) (λx=>M.Gi x.1.1) [fe C.aG] [F.Ko] (by rintro _ _ _ _ _<;>simp only[JY,M.Gi,nb]<;>rfl)
abbrev M.Td(l:au)(k:Bool->Option R):=(M.yB l).bind λa=>cond (!a) (k false) ((M.DU l).bind λb=>cond (decide (b>40)) (k false) ((M.Kq l 0).bind λc=>kD c (λf=>k false) λd=>letE d λe=>k true))
def M.Bj l:=M.Td l some
def C.Bj:=fTa S.Bj (λx=>M.Td x.1.1) [fe C.yB,fe C.DU] [F.Kq]
abbrev M.Tf(l:au)(k:Bool->Option R):=(M.Bj l).bind λd=>cond d ((idx l (i64.wrap ((↑l.length:Int) - 1))).bind λb=>(jD .i64 b 0).bind λa=>(M.lH a).bind λc=>k c) (k false)
def M.J4 l:=M.Tf l some
def C.J4:=fTa S.J4 (λx=>M.Tf x.1.1) [fe C.Bj,fe C.lH]
abbrev M.Vg(p:Int)(p1 p2 p3 p4:Bool)(k:Bool->Option R):=(M.dP p 1 15).bind λa=>cond a (cond (!p1) (k true) (k (p==14))) (k false)
def M.xM p p1 p2 p3 p4:=M.Vg p p1 p2 p3 p4 some
def C.xM:=fTa S.xM (λx=>M.Vg x.1.1.1 x.1.1.2.1 x.1.1.2.2.1 x.1.1.va.1 x.1.1.va.2.1) [fe C.dP]
abbrev M.P7(op':Int)(k:Int->Option R):=cond (op'==44) (k 3) (cond (op'==45) (k 4) (cond (op'==67) (k 6) (cond (op'==46) (k 6) (cond (op'==63) (k 7) (cond (op'==48) (k 7) (cond (op'==47) (k 7) (cond (op'==50) (k 7) (cond (op'==62) (k 7) (cond (op'==49) (k 7) (cond (op'==99) (k 8) (cond (op'==55) (k 9) (cond (op'==56) (k 9) (cond (op'==57) (k 10) (cond (op'==58) (k 10) (cond (op'==59) (k 10) (cond (op'==60) (k 12) (k 0)))))))))))))))))
def M.vS op':=M.P7 op' some
def C.vS:=fTa S.vS (λx=>M.P7 x.1.1)
abbrev M.P8(n' kC:Int)(ny oM:aC)(sV:au)(k:Int->Option R):=cond (n'==15) (k 1) (cond (n'==14) (k 2) (cond (n'==13) (k 5) (cond (n'==12) ((M.vS kC).bind λa=>k a) (cond (n'==11) (k 11) (cond (n'==9) (k 13) (cond (n'==10) (k 13) (cond (n'==6) (k 14) (cond (n'==1) (k 15) (cond (n'==2) (k 15) (cond (n'==3) (k 15) (cond (n'==4) (k 15) (cond (n'==5) (k 15) (cond (n'==7) (k 15) (cond (n'==8) (k 15) (k 0)))))))))))))))
def M.nN n' kC ny oM sV:=M.P8 n' kC ny oM sV some
def C.nN:=fTa S.nN (λx=>M.P8 x.1.1.1 x.1.1.2.1 x.1.1.2.2.1 x.1.1.va.1 x.1.1.va.2.1) [fe C.vS]
abbrev M.Eo(p4:Bool)(n':Int)(k:Bool->Option R)(p1:Bool)(kC:Int)(ny oM:aC)(sV:au)(p:Int):=cond p4 (cond (n'==11) (k false) (cond (n'==9) (k false) (cond (n'==4) (k false) (cond p1 (cond (n'==9) (k true) ((M.nN n' kC ny oM sV).bind λa=>k (decide (a>=p)))) ((M.nN n' kC ny oM sV).bind λc=>k (decide (c>=p))))))) (cond p1 (cond (n'==9) (k true) ((M.nN n' kC ny oM sV).bind λd=>k (decide (d>=p)))) ((M.nN n' kC ny oM sV).bind λb=>k (decide (b>=p))))
def M.WU(n' kC:Int)(ny oM:aC)(sV:au)(p:Int)(p1 p2 p3 p4:Bool)(k:Bool->Option R):=(M.xM p p1 p2 p3 p4).bind λb=>cond (!b) (k false) ((M.nN n' kC ny oM sV).bind λa=>cond (a==0) (k false) (cond p2 (cond (n'==13) (k false) (cond p3 (cond (n'==12) (cond (kC==62) (k false) (M.Eo p4 n' k p1 kC ny oM sV p)) (M.Eo p4 n' k p1 kC ny oM sV p)) (M.Eo p4 n' k p1 kC ny oM sV p))) (cond p3 (cond (n'==12) (cond (kC==62) (k false) (M.Eo p4 n' k p1 kC ny oM sV p)) (M.Eo p4 n' k p1 kC ny oM sV p)) (M.Eo p4 n' k p1 kC ny oM sV p))))
def M.Ja n' kC ny oM sV p p1 p2 p3 p4:=M.WU n' kC ny oM sV p p1 p2 p3 p4 some
def C.Ja:S.Ja.ok X0 λx=>ng (ng M.Ja x.1.1) x.1.2.1:=fnS (λx=>M.WU x.1.1.1 x.1.1.2.1 x.1.1.2.2.1 x.1.1.va.1 x.1.1.va.2.1 x.1.2.1.1 x.1.2.1.2.1 x.1.2.1.2.2.1 x.1.2.1.va.1 x.1.2.1.va.2.1) [fe C.xM,fe C.nN] [] (by intros;unfold M.WU M.Eo;exact zbI)
abbrev M.dA(n' kC:Int)(ny oM:aC)(sV:au)(k:Int×aC×Int->Option R):=cond (n'==1) (k (6,ny,0)) (cond (n'==2) (k (3,ny,0)) (cond (n'==3) (k (4,ny,0)) (cond (n'==4) (k (5,ny,0)) (k (0,[],0)))))
def M.dI n' kC ny oM sV:=M.dA n' kC ny oM sV some
def C.dI:=fTa S.dI (λx=>M.dA x.1.1.1 x.1.1.2.1 x.1.1.2.2.1 x.1.1.va.1 x.1.1.va.2.1)
abbrev M.P9(s':aC)(k:au->Option R):=k ([[D.int .i64 1,D.int .i64 0,D.str s',D.sl true 1 []]])
def M.fG s':=M.P9 s' some
def C.fG:=fTa S.fG (λx=>M.P9 x.1.1)
abbrev M.Qa(k:au->Option R):=k ([[D.int .i64 2,D.int .i64 0,D.str [],D.sl true 1 []]])
def M.yD:Option (au):=M.Qa some
def C.yD:=fTa S.yD (λx=>M.Qa)
def M.BU(l:au)(by' i:Int)(x':au)(o7 qg:Int)(uX:aC)(s:Int×au)(kn:Int×au->Option R)(ke:Int×au->Option R):Option R:=match s with
 |(k',xB)=>(idx l i).bind λc=>(cSl 1 c 3).bind λb=>bif decide (k'<(↑b.length:Int)) then((idx l i).bind λe=>(cSl 1 e 3).bind λd=>(idx d k').bind λf=>(jD .i64 f 0).bind λa=>oV xB [[D.int .i64 (i64.wrap (a+by'))]] 8 λg=>kn (i64.wrap (k'+1),g)) else ke (k',xB)
def M.HY l by' i x' o7 qg uX s:=M.BU l by' i x' o7 qg uX s (λs=>some (Sum.inl s)) λt=>some (Sum.inr t)
def M.Lu l by' i x' o7 qg uX s:=fV (M.HY l by' i x' o7 qg uX) s
def F.Lu:LE X0 220:=le 8 (IC [dD 0 (pL false 4),dD 1 pI,dD 5 (pO 300000 0),dD 6 pI,dD 7 (pP 300001 0),dD 8 pI] zbz) (λx=>(x.1.va.2.2.1,x.va.1)) (λx s=>((x.1.1,x.1.2.1,(),x.1.va.1,(),s.1,()),(x.2.1,(x.2.2.1.1,x.2.2.1.2.1,x.2.2.1.2.2.1,(),()),s.2,()))) (λx=> .leaf (Int×au) (λt=>(Ex.exit 2,⟨[(0,ET 4 x.1.1),(1,iY x.1.2.1),(5,V.own 300000 0),(6,iY x.1.va.1),(7,V.ptr 300001 0),(8,iY t.1),(29,ou false)],[(300000,Cell.arr false false 0 4 x.2.1),(300001,Cell.box 141 [iY x.2.2.1.1,iY x.2.2.1.2.1,qU x.2.2.1.2.2.1,V.own 300002 0]),(300002,Cell.arr false true 0 1 t.2)]⟩))) (λx=>M.BU x.1.1 x.1.2.1 x.1.va.1 x.2.1 x.2.2.1.1 x.2.2.1.2.1 x.2.2.1.2.2.1) [] [] (by rintro _ _ ⟨_,_⟩ _ _<;>simp only[oV,M.BU,nb]<;>rfl)
def M.BX(l:au)(by':Int)(s:Int×au)(kn:Int×au->Option R)(ke:Int×au->Option R):Option R:=match s with
 |(i,x')=>bif decide (i<(↑l.length:Int)) then((idx l i).bind λa=>(jD .i64 a 0).bind λe=>(jD .i64 a 1).bind λc=>(cStr a 2).bind λb=>(cSl 1 a 3).bind λg=>(M.Lu l by' i x' e c b (0,[])).bind λd=>bif aj d.2 then(oV x' [[D.int .i64 e,D.int .i64 c,D.str b,D.sl true 1 d.2]] 56 λf=>kn (i64.wrap (i+1),f)) else none) else ke (i,x')
def M.H6 l by' s:=M.BX l by' s (λs=>some (Sum.inl s)) λt=>some (Sum.inr t)
def M.LC l by' s:=fV (M.H6 l by') s
def F.LC:LE X0 220:=le 3 (IC [dD 0 (pL false 4),dD 1 pI,dD 5 (pO 300000 0),dD 6 pI] [dD 300000 (cA false false 0 4)]) (λx=>(x.1.va.1,x.2.1)) (λx s=>((x.1.1,x.1.2.1,(),s.1,()),(s.2,()))) (λx=> .leaf (Int×au) (λt=>(Ex.exit 0,⟨[(0,ET 4 x.1.1),(1,iY x.1.2.1),(5,V.own 300000 0),(6,iY t.1),(13,ou false)],[(300000,Cell.arr false false 0 4 t.2)]⟩))) (λx=>M.BX x.1.1 x.1.2.1) [] [F.Lu] (by rintro _ _ ⟨_,_⟩ _ _<;>simp only[oV,M.BX,nb]<;>rfl)
abbrev M.NV(l:au)(by':Int)(k:au->Option R):=(M.LC l by' (0,[])).bind λa=>k a.2
def M.vH l by':=M.NV l by' some
def C.vH:=fTa S.vH (λx=>M.NV x.1.1 x.1.2.1) [] [F.LC]
def M.zo(s:zay⊕zaz)(kn:zay⊕zaz->Option R)(ke:zay⊕zaz->Option R):Option R:=match s with
 | .inl (parts,k',x',o7,qg,uX)=>bif decide (k'<(↑parts.length:Int)) then((idx parts k').bind λd=>(cSl 4 d 0).bind λe=>(M.vH e ((↑x'.length:Int))).bind λb=>oV x' b 56 λza=>kn (.inr (parts,i64.wrap (k'+1),za,o7,qg,uX,[[D.int .i64 (i64.wrap ((↑za.length:Int) - 1))]]))) else(ke (.inl (parts,k',x',o7,qg,uX)))
 | .inr (parts,k',x',o7,qg,uX,xB)=>bif decide (k'<(↑parts.length:Int)) then((idx parts k').bind λa=>(cSl 4 a 0).bind λf=>(M.vH f ((↑x'.length:Int))).bind λc=>oV x' c 56 λza=>oV xB [[D.int .i64 (i64.wrap ((↑za.length:Int) - 1))]] 8 λg=>kn (.inr (parts,i64.wrap (k'+1),za,o7,qg,uX,g))) else ke (.inr (parts,k',x',o7,qg,uX,xB))
def M.Ep s:=M.zo s (λs=>some (Sum.inl s)) λt=>some (Sum.inr t)
def M.NW s:=fV (M.Ep) s
def F.NW:LE X0 192:=le 4 (pOr (IC zbF [dD 300000 (cA false false 0 4),dD 300001 (cB 141 [pI,pI,pS,VL 1])]) (IC zbF zbz)) (σ:=zay⊕zaz) (λx=>(match x with| .inl x=> .inl ((x.1.1,x.1.va.1,x.2.1,x.2.2.1.1,x.2.2.1.2.1,x.2.2.1.2.2.1))| .inr x=> .inr ((x.1.1,x.1.va.1,x.2.1,x.2.2.1.1,x.2.2.1.2.1,x.2.2.1.2.2.1,x.va.1)))) (λx s=>(match s with| .inl s=> .inl (((s.1,(),(),s.2.1,()),(s.2.2.1,(s.va.1,s.va.2.1,s.va.2.2,(),()),())))| .inr s=> .inr (((s.1,(),(),s.2.1,()),(s.2.2.1,(s.va.1,s.va.2.1,s.va.2.2.1,(),()),s.va.va,()))))) (λx=> .sum (.leaf zay (λt=>(Ex.exit 0,⟨[(2,ET 1 t.1),(7,V.own 300000 0),(8,V.ptr 300001 0),(9,iY t.2.1),(17,ou false)],[(300000,Cell.arr false false 0 4 t.2.2.1),(300001,Cell.box 141 [iY t.va.1,iY t.va.2.1,qU t.va.2.2,V.nil 1])]⟩))) (.leaf zaz (λt=>(Ex.exit 0,⟨[(2,ET 1 t.1),(7,V.own 300000 0),(8,V.ptr 300001 0),(9,iY t.2.1),(17,ou false)],[(300000,Cell.arr false false 0 4 t.2.2.1),(300001,Cell.box 141 [iY t.va.1,iY t.va.2.1,qU t.va.2.2.1,V.own 300002 0]),(300002,Cell.arr false true 0 1 t.va.va)]⟩)))) (λx=>M.zo) [fe C.vH] [] (by rintro _ _ (⟨_,_,_,_,_,_⟩|⟨_,_,_,_,_,_,_⟩) _ _<;>simp only[oV,M.zo,nb]<;>rfl) (hE:=by intro _ _ s _;rcases s with s|s<;>kernel_rfl)
abbrev M.Qb(kind n':Int)(parts:au)(k:au->Option R):=(M.NW (.inl (parts,0,[],kind,n',[]))).bind λd=>kD d (λb=>oV b.2.2.1 [[D.int .i64 b.2.2.2.1,D.int .i64 b.2.2.2.2.1,D.str b.2.2.2.2.2,D.sl true 1 []]] 56 λza=>k za) λc=>letE c λa=>cond (aj a.2.2.2.2.2.2) (oV a.2.2.1 [[D.int .i64 a.2.2.2.1,D.int .i64 a.2.2.2.2.1,D.str a.2.2.2.2.2.1,D.sl true 1 a.2.2.2.2.2.2]] 56 λza=>k za) none
def M.fH kind n' parts:=M.Qb kind n' parts some
def C.fH:=fTa S.fH (λx=>M.Qb x.1.1 x.1.2.1 x.1.2.2.1) [] [F.NW]
def M.Es(dh:zab)(kids x':au)(o7:Bool)(qg:Int)(uX xB Dn H7:Bool)(s:Int×au)(kn:Int×au->Option R)(ke:Int×au->Option R):Option R:=match s with
 |(k',KW)=>bif decide (k'<(↑kids.length:Int)) then(bif decide (k'>0) then((M.fG [44]).bind λh=>M.yD.bind λe=>oV KW [[D.sl true 4 h],[D.sl true 4 e]] 24 λza=>(idx kids k').bind λd=>(jD .i64 d 0).bind λf=>(dh x' o7 f qg uX xB Dn H7).bind λb=>oV za [[D.sl true 4 b]] 24 λi=>kn (i64.wrap (k'+1),i)) else (idx kids k').bind λc=>(jD .i64 c 0).bind λg=>(dh x' o7 g qg uX xB Dn H7).bind λa=>oV KW [[D.sl true 4 a]] 24 λza=>kn (i64.wrap (k'+1),za)) else ke (k',KW)
def M.Jw dh kids x' o7 qg uX xB Dn H7 s:=M.Es dh kids x' o7 qg uX xB Dn H7 s (λs=>some (Sum.inl s)) λt=>some (Sum.inr t)
def M.NY dh kids x' o7 qg uX xB Dn H7 s:=fV (M.Jw dh kids x' o7 qg uX xB Dn H7) s
def F.NY{dh:zab}(H8:S.rM.ok X0 λx=>ng (dh x.1.1.1 x.1.1.2.1 x.1.2.1) x.1.2.2.1):LE X0 218:=le 3 (IC [dD 1 (pL false 1),dD 3 (pP 300000 0),dD 5 (pP 300001 0),dD 7 (pO 300002 0),dD 8 pI] [dD 300000 (cB 145 [pL false 5,pB]),dD 300001 (cB 107 zbq),dD 300002 (cA false false 0 1)]) (λx=>(x.1.va.2.1,x.va.1)) (λx s=>((x.1.1,(),(),(),s.1,()),((x.2.1.1,x.2.1.2.1,()),(x.2.2.1.1,x.2.2.1.2.1,x.2.2.1.2.2.1,x.2.2.1.va.1,x.2.2.1.va.2.1,()),s.2,()))) (λx=> .leaf (Int×au) (λt=>(Ex.exit 0,⟨[(1,ET 1 x.1.1),(3,V.ptr 300000 0),(5,V.ptr 300001 0),(7,V.own 300002 0),(8,iY t.1),(13,ou false)],[(300000,Cell.box 145 [ET 5 x.2.1.1,ou x.2.1.2.1]),(300001,Cell.box 107 [iY x.2.2.1.1,ou x.2.2.1.2.1,ou x.2.2.1.2.2.1,ou x.2.2.1.va.1,ou x.2.2.1.va.2.1]),(300002,Cell.arr false false 0 1 t.2)]⟩))) (λx=>M.Es dh x.1.1 x.2.1.1 x.2.1.2.1 x.2.2.1.1 x.2.2.1.2.1 x.2.2.1.2.2.1 x.2.2.1.va.1 x.2.2.1.va.2.1) [fe C.fG,fe C.yD,fe H8] [] (by rintro _ _ ⟨_,_⟩ _ _<;>unfold M.Es<;>exact zbI)
def M.Gj(dh:zab)(w:au)(w1:Bool)(kids:au)(p:Int)(p1 p2 p3 p4:Bool)(k:au->Option R):=(M.NY dh kids w w1 p p1 p2 p3 p4 (0,[])).bind λd=>(M.fH 6 0 (aB d.2)).bind λa=>cond ([[D.sl true 4 a]].all gI) ((M.fH 4 4 (aB [[D.sl true 4 a]])).bind λb=>cond ([[D.sl true 4 b]].all gI) ((M.fH 5 0 (aB [[D.sl true 4 b]])).bind λc=>cond ([[D.sl true 4 c]].all gI) (k c) none) none) none
def C.aiv{dh:zab}(H8:S.rM.ok X0 λx=>ng (dh x.1.1.1 x.1.1.2.1 x.1.2.1) x.1.2.2.1):S.DW.ok X0 λx=>ng (M.Gj dh x.1.1.1 x.1.1.2.1 x.1.2.1) x.1.2.2.1 some:=fnS (λx=>M.Gj dh x.1.1.1 x.1.1.2.1 x.1.2.1 x.1.2.2.1.1 x.1.2.2.1.2.1 x.1.2.2.1.2.2.1 x.1.2.2.1.va.1 x.1.2.2.1.va.2.1) [fe C.fH] [F.NY H8] (by intros;unfold M.Gj;exact zbI)
def M.Dy(nU:zak)(w:au)(w1:Bool)(n' kC:Int)(ny oM:aC)(sV:au)(open' end':aC)(k:au->Option R):=cond ((ny.length+open'.length).ble 9223372036854775807) ((M.fG (ny++open')).bind λd=>M.oz.bind λa=>(nU w w1 sV a.1 a.2.1 a.2.2.1 a.2.2.2.1 a.2.2.2.2).bind λe=>(M.fG end').bind λc=>(M.fH 6 0 (aB [[D.sl true 4 d],[D.sl true 4 e],[D.sl true 4 c]])).bind λb=>cond ([[D.sl true 4 b]].all gI) (k b) none) none
def C.agZ{nU:zak}(VW:S.DW.ok X0 λx=>ng (nU x.1.1.1 x.1.1.2.1 x.1.2.1) x.1.2.2.1):S.E9.ok X0 λx=>ng (M.Dy nU x.1.1.1 x.1.1.2.1) x.1.2.1 x.1.2.2.1 x.1.va.1 some:=fnS (λx=>M.Dy nU x.1.1.1 x.1.1.2.1 x.1.2.1.1 x.1.2.1.2.1 x.1.2.1.2.2.1 x.1.2.1.va.1 x.1.2.1.va.2.1 x.1.2.2.1 x.1.va.1) [fe C.fG,fe C.oz,fe VW,fe C.fH] [] (by intros;unfold M.Dy;exact zbI)
def M.BF(mD:zab)(w:au)(w1:Bool)(i:Int)(k:au->Option R):=(mD w w1 i 14 false false false false).bind λa=>k a
def C.afB{mD:zab}(VX:S.DZ.ok X0 λx=>ng (mD x.1.1.1 x.1.1.2.1 x.1.2.1) x.1.2.2.1):S.BM.ok X0 λx=>M.BF mD x.1.1.1 x.1.1.2.1 x.1.2.1 some:=fnS (λx=>M.BF mD x.1.1.1 x.1.1.2.1 x.1.2.1) [fe VX] [] (by intros;unfold M.BF;exact zbI)
abbrev M.Qc(op':Int)(k:Int×Int->Option R):=(M.vS op').bind λa=>cond (a==3) (k (3,4)) (cond (a==4) (k (4,5)) (cond (a==6) (k (7,7)) (cond (a==7) (k (8,8)) (cond (a==8) (k (8,9)) (cond (a==9) (k (9,10)) (cond (a==10) (k (10,11)) (k (13,11))))))))
def M.Aq op':=M.Qc op' some
def C.Aq:=fTa S.Aq (λx=>M.Qc x.1.1) [fe C.vS]
abbrev M.Ti(n' kC:Int)(ny oM:aC)(sV:au)(k' p:Int)(p1 p2 p3 p4:Bool)(k:Int×Bool×Bool×Bool×Bool->Option R):=(M.xM p p1 p2 p3 p4).bind λh=>cond (!h) (k (0,false,false,false,false)) ((M.dP k' 0 (i64.wrap ((↑sV.length:Int) - 1))).bind λi=>cond (!i) (k (0,false,false,false,false)) ((M.nN n' kC ny oM sV).bind λg=>cond (g==0) (k (0,false,false,false,false)) (cond p4 (cond (n'==15) (cond (decide (k'>0)) (k (1,false,p2,p3,k'==0)) (k (14,false,p2,p3,k'==0))) (cond (n'==14) (cond (k'==0) (k (3,false,p2,p3,k'==0)) (k (2,false,p2,p3,k'==0))) (cond (n'==13) (cond (decide ((↑sV.length:Int)>1)) (M.oz.bind λb=>k (b)) (k (5,false,p2,p3,k'==0))) (cond (n'==12) ((M.Aq kC).bind λe=>cond (decide (k'>0)) (k (e.2,false,p2,p3,kC==99)) (k (e.1,false,p2,p3,k'==0))) (cond (n'==11) (k (11,false,p2,p3,false)) (cond (n'==9) (k (14,false,p2,p3,false)) (cond (n'==10) (k (14,false,p2,p3,false)) (cond (n'==6) (k (14,true,p2,p3,false)) (M.oz.bind λa=>k (a)))))))))) (cond (n'==15) (cond (decide (k'>0)) (k (1,false,p2,p3,false)) (k (14,false,p2,p3,false))) (cond (n'==14) (cond (k'==0) (k (3,false,p2,p3,false)) (k (2,false,p2,p3,false))) (cond (n'==13) (cond (decide ((↑sV.length:Int)>1)) (M.oz.bind λc=>k (c)) (k (5,false,p2,p3,false))) (cond (n'==12) ((M.Aq kC).bind λf=>cond (decide (k'>0)) (k (f.2,false,p2,p3,kC==99)) (k (f.1,false,p2,p3,false))) (cond (n'==11) (k (11,false,p2,p3,false)) (cond (n'==9) (k (14,false,p2,p3,false)) (cond (n'==10) (k (14,false,p2,p3,false)) (cond (n'==6) (k (14,true,p2,p3,false)) (M.oz.bind λd=>k (d)))))))))))))
def M.gV n' kC ny oM sV k' p p1 p2 p3 p4:=M.Ti n' kC ny oM sV k' p p1 p2 p3 p4 some
def C.gV:=fTa S.gV (λx=>M.Ti x.1.1.1 x.1.1.2.1 x.1.1.2.2.1 x.1.1.va.1 x.1.1.va.2.1 x.1.2.1 x.1.2.2.1.1 x.1.2.2.1.2.1 x.1.2.2.1.2.2.1 x.1.2.2.1.va.1 x.1.2.2.1.va.2.1) [fe C.xM,fe C.dP,fe C.nN,fe C.oz,fe C.Aq]
abbrev M.Tj(kind:Int)(k:Int×aC×Int->Option R):=(M.jO kind).bind λa=>k (kind,a,0)
def M.gW kind:=M.Tj kind some
def C.gW:=fTa S.gW (λx=>M.Tj x.1.1) [fe C.jO]
def M.Et(dG:zab)(kids x':au)(o7:Bool)(s:Int×au)(kn:Int×au->Option R)(ke:Int×au->Option R):Option R:=match s with
 |(k',qg)=>bif decide (k'<(↑kids.length:Int)) then(bif decide (k'>0) then((M.gW 36).bind λc=>oV qg [[D.int .i64 c.1,D.str c.2.1,D.int .i64 c.2.2]] 32 λza=>(idx kids k').bind λi=>(jD .i64 i 0).bind λe=>M.oz.bind λa=>(dG x' o7 e a.1 a.2.1 a.2.2.1 a.2.2.2.1 a.2.2.2.2).bind λg=>oV za g 32 λj=>kn (i64.wrap (k'+1),j)) else (idx kids k').bind λh=>(jD .i64 h 0).bind λf=>M.oz.bind λb=>(dG x' o7 f b.1 b.2.1 b.2.2.1 b.2.2.2.1 b.2.2.2.2).bind λd=>oV qg d 32 λza=>kn (i64.wrap (k'+1),za)) else ke (k',qg)
def M.Jy dG kids x' o7 s:=M.Et dG kids x' o7 s (λs=>some (Sum.inl s)) λt=>some (Sum.inr t)
def M.NZ dG kids x' o7 s:=fV (M.Jy dG kids x' o7) s
def F.NZ{dG:zab}(H9:S.vT.ok X0 λx=>ng (dG x.1.1.1 x.1.1.2.1 x.1.2.1) x.1.2.2.1):LE X0 230:=le 3 (IC zbE [dD 300000 (cB 145 [pL false 5,pB]),dD 300001 (cA false true 0 3)]) (λx=>(x.1.va.1,x.2.2.1)) (λx s=>((x.1.1,(),(),s.1,()),((x.2.1.1,x.2.1.2.1,()),s.2,()))) (λx=> .leaf (Int×au) (λt=>(Ex.exit 0,⟨[(1,ET 1 x.1.1),(2,V.ptr 300000 0),(5,V.own 300001 0),(6,iY t.1),(11,ou false)],[(300000,Cell.box 145 [ET 5 x.2.1.1,ou x.2.1.2.1]),(300001,Cell.arr false true 0 3 t.2)]⟩))) (λx=>M.Et dG x.1.1 x.2.1.1 x.2.1.2.1) [fe C.gW,fe C.oz,fe H9] [] (by rintro _ _ ⟨_,_⟩ _ _<;>unfold M.Et<;>exact zbI)
def M.Gl(dG:zab)(w:au)(w1:Bool)(kids:au)(k:au->Option R):=(M.NZ dG kids w w1 (0,[])).bind λa=>cond (aj a.2) (k a.2) none
def C.aiw{dG:zab}(H9:S.vT.ok X0 λx=>ng (dG x.1.1.1 x.1.1.2.1 x.1.2.1) x.1.2.2.1):S.DX.ok X0 λx=>M.Gl dG x.1.1.1 x.1.1.2.1 x.1.2.1 some:=fnS (λx=>M.Gl dG x.1.1.1 x.1.1.2.1 x.1.2.1) [] [F.NZ H9] (by intros;unfold M.Gl;exact zbI)
def M.Dz(nV:zal)(w:au)(w1:Bool)(t':Int)(Iw:aC)(UM:Int)(kids:au)(open':Int)(k:au->Option R):=(M.gW open').bind λb=>(nV w w1 kids).bind λc=>oV [[D.int .i64 t',D.str Iw,D.int .i64 UM],[D.int .i64 b.1,D.str b.2.1,D.int .i64 b.2.2]] c 32 λe=>(M.gW (i64.wrap (open'+1))).bind λa=>oV e [[D.int .i64 a.1,D.str a.2.1,D.int .i64 a.2.2]] 32 λd=>cond (aj d) (k d) none
def C.ag0{nV:zal}(VY:S.DX.ok X0 λx=>nV x.1.1.1 x.1.1.2.1 x.1.2.1):S.Fa.ok X0 λx=>M.Dz nV x.1.1.1 x.1.1.2.1 x.1.2.1.1 x.1.2.1.2.1 x.1.2.1.2.2.1 x.1.2.2.1 x.1.va.1 some:=fnS (λx=>M.Dz nV x.1.1.1 x.1.1.2.1 x.1.2.1.1 x.1.2.1.2.1 x.1.2.1.2.2.1 x.1.2.2.1 x.1.va.1) [fe C.gW,fe VY] [] (by intros;simp only[M.Dz,oV];exact zbI)
def M.BG(gq:zab)(w:au)(w1:Bool)(i:Int)(k:au->Option R):=(gq w w1 i 14 false false false false).bind λa=>cond (aj a) (k a) none
def C.afC{gq:zab}(VZ:S.DY.ok X0 λx=>ng (gq x.1.1.1 x.1.1.2.1 x.1.2.1) x.1.2.2.1):S.BN.ok X0 λx=>M.BG gq x.1.1.1 x.1.1.2.1 x.1.2.1 some:=fnS (λx=>M.BG gq x.1.1.1 x.1.1.2.1 x.1.2.1) [fe VZ] [] (by intros;unfold M.BG;exact zbI)
end
noncomputable section
variable {R:Type}
def M.xg(dG:zab)(w:au)(w1:Bool)(n' kC:Int)(ny oM:aC)(sV:au)(p:Int)(p1 p2 p3 p4:Bool)(k:au->Option R):=(idx sV 0).bind λu=>(jD .i64 u 0).bind λl=>(M.gV n' kC ny oM sV 0 p p1 p2 p3 p4).bind λd=>(dG w w1 l d.1 d.2.1 d.2.2.1 d.2.2.2.1 d.2.2.2.2).bind λg=>cond (n'==14) ((M.gW 65).bind λh=>oV g [[D.int .i64 h.1,D.str h.2.1,D.int .i64 h.2.2]] 32 λza=>(idx sV 1).bind λm=>(jD .i64 m 0).bind λj=>(M.gV n' kC ny oM sV 1 p p1 p2 p3 p4).bind λc=>(dG w w1 j c.1 c.2.1 c.2.2.1 c.2.2.2.1 c.2.2.2.2).bind λn=>oV za n 32 λzb=>(M.gW 66).bind λi=>oV zb [[D.int .i64 i.1,D.str i.2.1,D.int .i64 i.2.2]] 32 λza=>(idx sV 2).bind λz=>(jD .i64 z 0).bind λv=>(M.gV n' kC ny oM sV 2 p p1 p2 p3 p4).bind λe=>(dG w w1 v e.1 e.2.1 e.2.2.1 e.2.2.2.1 e.2.2.2.2).bind λr=>oV za r 32 λzb=>cond (aj zb) (k zb) none) (cond (kC !=99) ((M.gW kC).bind λf=>oV g [[D.int .i64 f.1,D.str f.2.1,D.int .i64 f.2.2]] 32 λza=>(idx sV 1).bind λo=>(jD .i64 o 0).bind λs=>(M.gV n' kC ny oM sV 1 p p1 p2 p3 p4).bind λb=>(dG w w1 s b.1 b.2.1 b.2.2.1 b.2.2.2.1 b.2.2.2.2).bind λx=>oV za x 32 λzb=>cond (aj zb) (k zb) none) ((idx sV 1).bind λq=>(jD .i64 q 0).bind λy=>(M.gV n' kC ny oM sV 1 p p1 p2 p3 p4).bind λa=>(dG w w1 y a.1 a.2.1 a.2.2.1 a.2.2.2.1 a.2.2.2.2).bind λt=>oV g t 32 λza=>cond (aj za) (k za) none))
def C.ag1{dG:zab}(H9:S.vT.ok X0 λx=>ng (dG x.1.1.1 x.1.1.2.1 x.1.2.1) x.1.2.2.1):S.Fb.ok X0 λx=>ng (ng (M.xg dG x.1.1.1 x.1.1.2.1) x.1.2.1) x.1.2.2.1 some:=fnS (λx=>M.xg dG x.1.1.1 x.1.1.2.1 x.1.2.1.1 x.1.2.1.2.1 x.1.2.1.2.2.1 x.1.2.1.va.1 x.1.2.1.va.2.1 x.1.2.2.1.1 x.1.2.2.1.2.1 x.1.2.2.1.2.2.1 x.1.2.2.1.va.1 x.1.2.2.1.va.2.1) [fe C.gV,fe H9,fe C.gW] [] (by intros;simp only[M.xg,oV];exact zbI)
abbrev M.gX(afD:Int×aC×Int)(axt:au)(k:au->Option R):=cond ((([[D.int .i64 afD.1,D.str afD.2.1,D.int .i64 afD.2.2]].length+axt.length) * 32).ble 140737488355328) (cond (([[D.int .i64 afD.1,D.str afD.2.1,D.int .i64 afD.2.2]].length+axt.length).ble 140737488355328) (cond (aj ([[D.int .i64 afD.1,D.str afD.2.1,D.int .i64 afD.2.2]]++axt)) (k ([[D.int .i64 afD.1,D.str afD.2.1,D.int .i64 afD.2.2]]++axt)) none) none) none
def M.iF(vZ:zaq)(um:zai)(dG:zab)(nV:zal)(Eu:zaj)(w:au)(w1:Bool)(i p:Int)(p1 p2 p3 p4:Bool)(k:au->Option R):=(idx w i).bind λy=>JY 1 y λaeJ al9 akl axu Dk=>((M.dI aeJ al9 akl axu Dk).bind λe=>cond (e.1 !=0) (k ([[D.int .i64 e.1,D.str e.2.1,D.int .i64 e.2.2]])) (cond (aeJ==5) ((vZ w w1 6 akl 0 Dk 34).bind λn=>cond (aj n) (k n) none) (cond (aeJ==7) ((vZ w w1 7 akl 0 Dk 32).bind λq=>cond (aj q) (k q) none) (cond (aeJ==8) ((vZ w w1 8 akl 0 Dk 32).bind λr=>cond (aj r) (k r) none) (cond (aeJ==9) ((M.gW al9).bind λA=>(idx Dk 0).bind λU=>(jD .i64 U 0).bind λQ=>(um w w1 Q).bind λu=>M.gX A u k) (cond (aeJ==10) ((idx Dk 0).bind λG=>(jD .i64 G 0).bind λt=>(um w w1 t).bind λI=>(M.gW al9).bind λh=>oV I [[D.int .i64 h.1,D.str h.2.1,D.int .i64 h.2.2]] 32 λza=>cond (aj za) (k za) none) (cond (aeJ==15) ((idx Dk 0).bind λx=>(jD .i64 x 0).bind λH=>(um w w1 H).bind λz=>(M.gW al9).bind λj=>oV z [[D.int .i64 j.1,D.str j.2.1,D.int .i64 j.2.2]] 32 λza=>(idx Dk 1).bind λK=>(jD .i64 K 0).bind λs=>(M.gV aeJ al9 akl axu Dk 1 p p1 p2 p3 p4).bind λd=>(dG w w1 s d.1 d.2.1 d.2.2.1 d.2.2.2.1 d.2.2.2.2).bind λW=>oV za W 32 λzb=>cond (aj zb) (k zb) none) (cond (aeJ==6) ((M.gW 68).bind λF=>(idx Dk 0).bind λP=>(jD .i64 P 0).bind λJ=>(M.gV aeJ al9 akl axu Dk 0 p p1 p2 p3 p4).bind λb=>(dG w w1 J b.1 b.2.1 b.2.2.1 b.2.2.2.1 b.2.2.2.2).bind λE=>M.gX F E k) (cond (aeJ==11) ((M.gW al9).bind λT=>(idx Dk 0).bind λV=>(jD .i64 V 0).bind λN=>(M.gV aeJ al9 akl axu Dk 0 p p1 p2 p3 p4).bind λc=>(dG w w1 N c.1 c.2.1 c.2.2.1 c.2.2.2.1 c.2.2.2.2).bind λO=>M.gX T O k) (cond (aeJ==13) ((idx Dk 0).bind λL=>(jD .i64 L 0).bind λC=>(M.gV aeJ al9 akl axu Dk 0 p p1 p2 p3 p4).bind λa=>(dG w w1 C a.1 a.2.1 a.2.2.1 a.2.2.2.1 a.2.2.2.2).bind λv=>cond (decide ((↑Dk.length:Int)>1)) ((M.gW 32).bind λl=>(nV w w1 Dk).bind λB=>oV [[D.int .i64 l.1,D.str l.2.1,D.int .i64 l.2.2]] B 32 λza=>(M.gW 33).bind λf=>oV za [[D.int .i64 f.1,D.str f.2.1,D.int .i64 f.2.2]] 32 λzb=>(M.gW 24).bind λm=>oV zb [[D.int .i64 m.1,D.str m.2.1,D.int .i64 m.2.2],[D.int .i64 6,D.str akl,D.int .i64 0]] 32 λza=>cond (aj za) (k za) none) ((M.gW 24).bind λg=>oV v [[D.int .i64 g.1,D.str g.2.1,D.int .i64 g.2.2],[D.int .i64 6,D.str akl,D.int .i64 0]] 32 λza=>cond (aj za) (k za) none)) ((Eu w w1 aeJ al9 akl axu Dk p p1 p2 p3 p4).bind λo=>cond (aj o) (k o) none)))))))))))
def C.aix{vZ:zaq}{um:zai}{dG:zab}{nV:zal}{Eu:zaj}(aiy:S.Fa.ok X0 λx=>vZ x.1.1.1 x.1.1.2.1 x.1.2.1.1 x.1.2.1.2.1 x.1.2.1.2.2.1 x.1.2.2.1 x.1.va.1)(ag2:S.BN.ok X0 λx=>um x.1.1.1 x.1.1.2.1 x.1.2.1)(H9:S.vT.ok X0 λx=>ng (dG x.1.1.1 x.1.1.2.1 x.1.2.1) x.1.2.2.1)(VY:S.DX.ok X0 λx=>nV x.1.1.1 x.1.1.2.1 x.1.2.1)(aiz:S.Fb.ok X0 λx=>ng (ng (Eu x.1.1.1 x.1.1.2.1) x.1.2.1) x.1.2.2.1):S.DY.ok X0 λx=>ng (M.iF vZ um dG nV Eu x.1.1.1 x.1.1.2.1 x.1.2.1) x.1.2.2.1 some:=fnS (λx=>M.iF vZ um dG nV Eu x.1.1.1 x.1.1.2.1 x.1.2.1 x.1.2.2.1.1 x.1.2.2.1.2.1 x.1.2.2.1.2.2.1 x.1.2.2.1.va.1 x.1.2.2.1.va.2.1) [fe C.dI,fe aiy,fe C.gW,fe ag2,fe C.gV,fe H9,fe VY,fe aiz] [] (by intros;unfold M.iF M.gX;exact zbI)
abbrev M.Ns(gq:zab)(w:au)(w1:Bool)(i:Int)(k:au->Option R):=(M.gW 32).bind λb=>M.oz.bind λd=>(gq w w1 i d.1 d.2.1 d.2.2.1 d.2.2.2.1 d.2.2.2.2).bind λc=>cond ((([[D.int .i64 b.1,D.str b.2.1,D.int .i64 b.2.2]].length+c.length) * 32).ble 140737488355328) (cond (([[D.int .i64 b.1,D.str b.2.1,D.int .i64 b.2.2]].length+c.length).ble 140737488355328) ((M.gW 33).bind λa=>cond (((([[D.int .i64 b.1,D.str b.2.1,D.int .i64 b.2.2]]++c).length+[[D.int .i64 a.1,D.str a.2.1,D.int .i64 a.2.2]].length) * 32).ble 140737488355328) (cond ((([[D.int .i64 b.1,D.str b.2.1,D.int .i64 b.2.2]]++c).length+[[D.int .i64 a.1,D.str a.2.1,D.int .i64 a.2.2]].length).ble 140737488355328) (cond (aj ([[D.int .i64 b.1,D.str b.2.1,D.int .i64 b.2.2]]++c++[[D.int .i64 a.1,D.str a.2.1,D.int .i64 a.2.2]])) (k ([[D.int .i64 b.1,D.str b.2.1,D.int .i64 b.2.2]]++c++[[D.int .i64 a.1,D.str a.2.1,D.int .i64 a.2.2]])) none) none) none) none) none
abbrev M.Tq(w1:Bool)(w:au)(i:Int)(gq:zab)(p:Int)(p1 p2 p3 p4:Bool)(k:au->Option R):=cond w1 ((idx w i).bind λa=>(jD .i64 a 0).bind λe=>(jD .i64 a 1).bind λc=>(cStr a 2).bind λh=>(cStr a 3).bind λg=>(cSl 1 a 4).bind λl=>(M.nN e c h g l).bind λd=>cond (d==15) ((idx w i).bind λj=>(jD .i64 j 0).bind λf=>cond (f !=4) ((gq w w1 i p p1 p2 p3 p4).bind λb=>cond (aj b) (k b) none) (M.Ns gq w w1 i k)) (M.Ns gq w w1 i k)) (M.Ns gq w w1 i k)
def M.LD(gq:zab)(w:au)(w1:Bool)(i p:Int)(p1 p2 p3 p4:Bool)(k:au->Option R):=(idx w i).bind λb=>JY 1 b λaYp aYq aYr aYs aCM=>((M.Ja aYp aYq aYr aYs aCM p p1 p2 p3 p4).bind λc=>cond c (cond (!w1) ((gq w w1 i p p1 p2 p3 p4).bind λa=>cond (aj a) (k a) none) (M.Tq w1 w i gq p p1 p2 p3 p4 k)) (M.Tq w1 w i gq p p1 p2 p3 p4 k))
def C.ama{gq:zab}(VZ:S.DY.ok X0 λx=>ng (gq x.1.1.1 x.1.1.2.1 x.1.2.1) x.1.2.2.1):S.vT.ok X0 λx=>ng (M.LD gq x.1.1.1 x.1.1.2.1 x.1.2.1) x.1.2.2.1 some:=fnS (λx=>M.LD gq x.1.1.1 x.1.1.2.1 x.1.2.1 x.1.2.2.1.1 x.1.2.2.1.2.1 x.1.2.2.1.2.2.1 x.1.2.2.1.va.1 x.1.2.2.1.va.2.1) [fe C.Ja,fe VZ,fe C.nN,fe C.gW,fe C.oz] [] (by intros;unfold M.LD M.Tq M.Ns;exact zbI)
def M.oJ:Nat->(zab)×(zal)×(zaq)×(zai)×(zaj)×(zab):=Nat.rec (λ_ _ _ _ _ _ _ _=>none,λ_ _ _=>none,λ_ _ _ _ _ _ _=>none,λ_ _ _=>none,λ_ _ _ _ _ _ _ _ _ _ _ _=>none,λ_ _ _ _ _ _ _ _=>none) λ_ qz=>(λw w1 i p p1 p2 p3 p4=>M.LD qz.2.2.2.2.2 w w1 i p p1 p2 p3 p4 some,λw w1 kids=>M.Gl qz.1 w w1 kids some,λw w1 t' Iw UM kids open'=>M.Dz qz.2.1 w w1 t' Iw UM kids open' some,λw w1 i=>M.BG qz.2.2.2.2.2 w w1 i some,λw w1 n' kC ny oM sV p p1 p2 p3 p4=>M.xg qz.1 w w1 n' kC ny oM sV p p1 p2 p3 p4 some,λw w1 i p p1 p2 p3 p4=>M.iF qz.2.2.1 qz.2.2.2.1 qz.1 qz.2.1 qz.2.2.2.2.1 w w1 i p p1 p2 p3 p4 some)
def M.yH n:=(M.oJ n).1
def M.Gm n:=(M.oJ n).2.1
def M.IJ n:=(M.oJ n).2.2.1
def M.Gn n:=(M.oJ n).2.2.2.1
def M.IK n:=(M.oJ n).2.2.2.2.1
def M.Gp n:=(M.oJ n).2.2.2.2.2
def M.aoX(n:Nat):M.yH (n+1)=λw w1 i p p1 p2 p3 p4=>M.LD (M.Gp n) w w1 i p p1 p2 p3 p4 some:=rfl
def M.akn(n:Nat):M.Gm (n+1)=λw w1 kids=>M.Gl (M.yH n) w w1 kids some:=rfl
def M.aiB(n:Nat):M.IJ (n+1)=λw w1 t' Iw UM kids open'=>M.Dz (M.Gm n) w w1 t' Iw UM kids open' some:=rfl
def M.ag3(n:Nat):M.Gn (n+1)=λw w1 i=>M.BG (M.Gp n) w w1 i some:=rfl
def M.aiC(n:Nat):M.IK (n+1)=λw w1 n' kC ny oM sV p p1 p2 p3 p4=>M.xg (M.yH n) w w1 n' kC ny oM sV p p1 p2 p3 p4 some:=rfl
def M.ako(n:Nat):M.Gp (n+1)=λw w1 i p p1 p2 p3 p4=>M.iF (M.IJ n) (M.Gn n) (M.yH n) (M.Gm n) (M.IK n) w w1 i p p1 p2 p3 p4 some:=rfl
def M.vT w w1 i p p1 p2 p3 p4:=lim λn=>M.yH n w w1 i p p1 p2 p3 p4
def M.DX w w1 kids:=lim λn=>M.Gm n w w1 kids
def M.Fa w w1 t' Iw UM kids open':=lim λn=>M.IJ n w w1 t' Iw UM kids open'
def M.BN w w1 i:=lim λn=>M.Gn n w w1 i
def M.Fb w w1 n' kC ny oM sV p p1 p2 p3 p4:=lim λn=>M.IK n w w1 n' kC ny oM sV p p1 p2 p3 p4
def M.DY w w1 i p p1 p2 p3 p4:=lim λn=>M.Gp n w w1 i p p1 p2 p3 p4
def C.oJ:∀n,(S.vT.ok X0 λx=>ng (M.yH n x.1.1.1 x.1.1.2.1 x.1.2.1) x.1.2.2.1)/\(S.DX.ok X0 λx=>M.Gm n x.1.1.1 x.1.1.2.1 x.1.2.1)/\(S.Fa.ok X0 λx=>M.IJ n x.1.1.1 x.1.1.2.1 x.1.2.1.1 x.1.2.1.2.1 x.1.2.1.2.2.1 x.1.2.2.1 x.1.va.1)/\(S.BN.ok X0 λx=>M.Gn n x.1.1.1 x.1.1.2.1 x.1.2.1)/\(S.Fb.ok X0 λx=>ng (ng (M.IK n x.1.1.1 x.1.1.2.1) x.1.2.1) x.1.2.2.1)/\(S.DY.ok X0 λx=>ng (M.Gp n x.1.1.1 x.1.1.2.1 x.1.2.1) x.1.2.2.1)
 |0=>⟨fA.zero,fA.zero,fA.zero,fA.zero,fA.zero,fA.zero⟩
 |n+1=>have h:=C.oJ n;⟨C.ama h.2.2.2.2.2,C.aiw h.1,C.ag0 h.2.1,C.afC h.2.2.2.2.2,C.ag1 h.1,C.aix h.2.2.1 h.2.2.2.1 h.1 h.2.1 h.2.2.2.2.1⟩
def C.vT:S.vT.ok X0 λx=>ng (M.vT x.1.1.1 x.1.1.2.1 x.1.2.1) x.1.2.2.1:=fA.lim λn=>(C.oJ n).1
def M.amb{n:Nat}{w:au}{w1:Bool}{i p:Int}{p1 p2 p3 p4:Bool}{r:au}(h:M.yH n w w1 i p p1 p2 p3 p4=some r):M.vT w w1 i p p1 p2 p3 p4=some r:=fA.Jf (λn=>(C.oJ n).1) (by intro a b h;simp[S.vT,rp,sg] at h;first|exact h|simp[Prod.ext_iff,h]) (x:=(((w,w1,()),i,(p,p1,p2,p3,p4,()),()),())) h
def C.DX:S.DX.ok X0 λx=>M.DX x.1.1.1 x.1.1.2.1 x.1.2.1:=fA.lim λn=>(C.oJ n).2.1
def C.Fa:S.Fa.ok X0 λx=>M.Fa x.1.1.1 x.1.1.2.1 x.1.2.1.1 x.1.2.1.2.1 x.1.2.1.2.2.1 x.1.2.2.1 x.1.va.1:=fA.lim λn=>(C.oJ n).2.2.1
def C.BN:S.BN.ok X0 λx=>M.BN x.1.1.1 x.1.1.2.1 x.1.2.1:=fA.lim λn=>(C.oJ n).2.2.2.1
def C.Fb:S.Fb.ok X0 λx=>ng (ng (M.Fb x.1.1.1 x.1.1.2.1) x.1.2.1) x.1.2.2.1:=fA.lim λn=>(C.oJ n).2.2.2.2.1
def C.DY:S.DY.ok X0 λx=>ng (M.DY x.1.1.1 x.1.1.2.1 x.1.2.1) x.1.2.2.1:=fA.lim λn=>(C.oJ n).2.2.2.2.2
def M.BZ(s':aC)(at':Int)(x':au)(s:Int×Int×Int)(kn:Int×Int×Int->Option R)(ke:Int×Int×Int->Option R):Option R:=match s with
 |(kind,size,i)=>bif decide (i<(↑x'.length:Int)) then((idx x' i).bind λg=>x'[i.toNat]?.bind λc=>(cStr c 0).bind λa=>bif decide (at'>=0) then(bif decide (at'<=(↑s'.length:Int)) then(bif decide ((↑a.length:Int)<=i64.wrap ((↑s'.length:Int) - at')) then((cut s' at' (i64.wrap (at'+(↑a.length:Int)))).bind λb=>(idx x' i).bind λf=>x'[i.toNat]?.bind λe=>(cStr e 0).bind λd=>bif b==d then(bif decide ((↑a.length:Int)>size) then(kn (i64.wrap (30+i),(↑a.length:Int),i64.wrap (i+1))) else kn (kind,size,i64.wrap (i+1))) else kn (kind,size,i64.wrap (i+1))) else kn (kind,size,i64.wrap (i+1))) else kn (kind,size,i64.wrap (i+1))) else kn (kind,size,i64.wrap (i+1))) else ke (kind,size,i)
def M.Kr s' at' x' s:=M.BZ s' at' x' s (λs=>some (Sum.inl s)) λt=>some (Sum.inr t)
def M.Qd s' at' x' s:=fV (M.Kr s' at' x') s
def F.Qd:LE X0 44:=le 5 (IC [dD 0 pS,dD 1 pI,dD 6 pI,dD 7 pI,dD 8 (pO 300000 0),dD 9 pI] [dD 300000 zbj]) (λx=>(x.1.2.2.1,x.1.va.1,x.1.va.2.2.1)) (λx s=>((x.1.1,x.1.2.1,s.1,s.2.1,(),s.2.2,()),(x.2.1,()))) (λx=> .leaf (Int×Int×Int) (λt=>(Ex.exit 0,⟨[(0,qU x.1.1),(1,iY x.1.2.1),(6,iY t.1),(7,iY t.2.1),(8,V.own 300000 0),(9,iY t.2.2),(15,ou false)],[(300000,Cell.arr false true 0 1 x.2.1)]⟩))) (λx=>M.BZ x.1.1 x.1.2.1 x.2.1) [] [] (by rintro _ _ ⟨_,_,_⟩ _ _<;>simp only[M.BZ,nb]<;>rfl)
abbrev M.Ug(s':aC)(at':Int)(k:Int×Int->Option R):=M.Ap.bind λb=>(M.Qd s' at' b (0,0,0)).bind λa=>k (a.1,a.2.1)
def M.zn s' at':=M.Ug s' at' some
def C.zn:=fTa S.zn (λx=>M.Ug x.1.1 x.1.2.1) [fe C.Ap] [F.Qd]
abbrev M.BH(a b:Int)(k:Bool->Option R)(a1 b1:aC):=cond (a==6) (cond (b==32) (k true) (cond ((a1.length+b1.length).ble 9223372036854775807) ((M.zn (a1++b1) 0).bind λd=>(M.dP a 30 68).bind λf=>cond f (k (decide (d.2>(↑a1.length:Int)))) (k false)) none)) (cond ((a1.length+b1.length).ble 9223372036854775807) ((M.zn (a1++b1) 0).bind λe=>(M.dP a 30 68).bind λc=>cond c (k (decide (e.2>(↑a1.length:Int)))) (k false)) none)
def M.N7(a:Int)(a1:aC)(a2 b:Int)(b1:aC)(b2:Int)(k:Bool->Option R):=cond (a1==[]) (k false) (cond (b1==[]) (k false) (cond (a==2) (k false) (cond (a==1) (k false) (cond (b==1) (k false) ((idx b1 0).bind λc=>(idx a1 (i64.wrap ((↑a1.length:Int) - 1))).bind λf=>(M.jL (i64.wrap (↑f.toNat:Int))).bind λg=>cond g ((M.jL (i64.wrap (↑c.toNat:Int))).bind λe=>cond e (k true) (cond (a==3) ((M.jL (i64.wrap (↑c.toNat:Int))).bind λh=>cond h (k true) (cond (i64.wrap (↑c.toNat:Int)==46) (k true) (M.BH a b k a1 b1))) (M.BH a b k a1 b1))) (cond (a==3) ((M.jL (i64.wrap (↑c.toNat:Int))).bind λd=>cond d (k true) (cond (i64.wrap (↑c.toNat:Int)==46) (k true) (M.BH a b k a1 b1))) (M.BH a b k a1 b1)))))))
def M.sN a a1 a2 b b1 b2:=M.N7 a a1 a2 b b1 b2 some
def C.sN:S.sN.ok X0 λx=>M.sN x.1.1.1 x.1.1.2.1 x.1.1.2.2.1 x.1.2.1.1 x.1.2.1.2.1 x.1.2.1.2.2.1:=fnS (λx=>M.N7 x.1.1.1 x.1.1.2.1 x.1.1.2.2.1 x.1.2.1.1 x.1.2.1.2.1 x.1.2.1.2.2.1) [fe C.jL,fe C.zn,fe C.dP] [] (by intros;unfold M.N7 M.BH;exact zbI)
abbrev M.Cb(kC:Int)(axw axx:au)(k:au->Option R):=(M.jO kC).bind λd=>cond ((1+d.length).ble 9223372036854775807) ((M.fG ([32]++d)).bind λf=>M.yD.bind λe=>(M.fH 6 0 (aB [[D.sl true 4 axw],[D.sl true 4 f],[D.sl true 4 e],[D.sl true 4 axx]])).bind λa=>cond ([[D.sl true 4 a]].all gI) ((M.fH 4 4 (aB [[D.sl true 4 a]])).bind λb=>cond ([[D.sl true 4 b]].all gI) ((M.fH 5 0 (aB [[D.sl true 4 b]])).bind λc=>cond ([[D.sl true 4 c]].all gI) (k c) none) none) none) none
def M.yI(dh:zab)(w:au)(w1:Bool)(n' kC:Int)(ny oM:aC)(sV:au)(p:Int)(p1 p2 p3 p4:Bool)(k:au->Option R):=(idx sV 0).bind λl=>(jD .i64 l 0).bind λj=>(M.gV n' kC ny oM sV 0 p p1 p2 p3 p4).bind λa=>(dh w w1 j a.1 a.2.1 a.2.2.1 a.2.2.2.1 a.2.2.2.2).bind λc=>(idx sV 1).bind λn=>(jD .i64 n 0).bind λm=>(M.gV n' kC ny oM sV 1 p p1 p2 p3 p4).bind λb=>(dh w w1 m b.1 b.2.1 b.2.2.1 b.2.2.2.1 b.2.2.2.2).bind λd=>cond (kC==99) ((M.fG [32]).bind λi=>(M.fH 6 0 (aB [[D.sl true 4 c],[D.sl true 4 i],[D.sl true 4 d]])).bind λg=>cond ([[D.sl true 4 g]].all gI) (k g) none) (cond (kC==45) (M.Cb kC c d k) (cond (kC==44) (M.Cb kC c d k) ((M.jO kC).bind λe=>cond ((1+e.length).ble 9223372036854775807) (cond ((([32]++e).length+1).ble 9223372036854775807) ((M.fG ([32]++e++[32])).bind λh=>(M.fH 6 0 (aB [[D.sl true 4 c],[D.sl true 4 h],[D.sl true 4 d]])).bind λf=>cond ([[D.sl true 4 f]].all gI) (k f) none) none) none)))
def C.akp{dh:zab}(H8:S.rM.ok X0 λx=>ng (dh x.1.1.1 x.1.1.2.1 x.1.2.1) x.1.2.2.1):S.J5.ok X0 λx=>ng (ng (M.yI dh x.1.1.1 x.1.1.2.1) x.1.2.1) x.1.2.2.1 some:=fnS (λx=>M.yI dh x.1.1.1 x.1.1.2.1 x.1.2.1.1 x.1.2.1.2.1 x.1.2.1.2.2.1 x.1.2.1.va.1 x.1.2.1.va.2.1 x.1.2.2.1.1 x.1.2.2.1.2.1 x.1.2.2.1.2.2.1 x.1.2.2.1.va.1 x.1.2.2.1.va.2.1) [fe C.gV,fe H8,fe C.fG,fe C.fH,fe C.jO,fe C.yD] [] (by intros;unfold M.yI M.Cb;exact zbI)
abbrev M.gY(qj:au)(Uh Xw:Int)(Yb acf:aC)(p:Int)(p1 p2 p3 p4:Bool)(dh:zab)(w:au)(w1:Bool)(aHz:au)(k:au->Option R):=(idx qj 0).bind λc=>(jD .i64 c 0).bind λe=>(M.gV Uh Xw Yb acf qj 0 p p1 p2 p3 p4).bind λa=>(dh w w1 e a.1 a.2.1 a.2.2.1 a.2.2.2.1 a.2.2.2.2).bind λd=>(M.fH 6 0 (aB [[D.sl true 4 aHz],[D.sl true 4 d]])).bind λb=>cond ([[D.sl true 4 b]].all gI) (k b) none
def M.iG(wo:zar)(uo:zai)(dh:zab)(nU:zak)(IL:zaj)(w:au)(w1:Bool)(i p:Int)(p1 p2 p3 p4:Bool)(k:au->Option R):=(idx w i).bind λaHB=>JY 1 aHB λUh Xw Yb acf qj=>((M.dI Uh Xw Yb acf qj).bind λv=>cond (v.1 !=0) ((M.fG v.2.1).bind λaYM=>k aYM) (cond (Uh==5) ((wo w w1 Uh Xw Yb acf qj [91] [93]).bind λaYN=>k aYN) (cond (Uh==7) ((wo w w1 Uh Xw Yb acf qj [40] [41]).bind λaYO=>k aYO) (cond (Uh==8) ((wo w w1 Uh Xw Yb acf qj [40] [41]).bind λP=>k P) (cond (Uh==9) ((M.jO Xw).bind λT=>(M.fG T).bind λaYR=>(idx qj 0).bind λaHC=>(jD .i64 aHC 0).bind λaYS=>(uo w w1 aYS).bind λJ=>(M.fH 6 0 (aB [[D.sl true 4 aYR],[D.sl true 4 J]])).bind λt=>cond ([[D.sl true 4 t]].all gI) (k t) none) (cond (Uh==10) ((idx qj 0).bind λaHD=>(jD .i64 aHD 0).bind λC=>(uo w w1 C).bind λZ=>(M.jO Xw).bind λx=>(M.fG x).bind λX=>(M.fH 6 0 (aB [[D.sl true 4 Z],[D.sl true 4 X]])).bind λq=>cond ([[D.sl true 4 q]].all gI) (k q) none) (cond (Uh==6) ((M.fG [36]).bind λaHz=>M.gY qj Uh Xw Yb acf p p1 p2 p3 p4 dh w w1 aHz k) (cond (Uh==15) ((idx qj 0).bind λF=>(jD .i64 F 0).bind λK=>(uo w w1 K).bind λaYZ=>(M.jO Xw).bind λm=>cond ((1+m.length).ble 9223372036854775807) (cond ((([32]++m).length+1).ble 9223372036854775807) ((M.fG ([32]++m++[32])).bind λaY0=>(idx qj 1).bind λI=>(jD .i64 I 0).bind λO=>(M.gV Uh Xw Yb acf qj 1 p p1 p2 p3 p4).bind λe=>(dh w w1 O e.1 e.2.1 e.2.2.1 e.2.2.2.1 e.2.2.2.2).bind λB=>(M.fH 6 0 (aB [[D.sl true 4 aYZ],[D.sl true 4 aY0],[D.sl true 4 B]])).bind λr=>cond ([[D.sl true 4 r]].all gI) (k r) none) none) none) (cond (Uh==11) ((M.jO Xw).bind λj=>(M.gW Xw).bind λl=>(idx qj 0).bind λQ=>(jD .i64 Q 0).bind λy=>(M.gV Uh Xw Yb acf qj 0 p p1 p2 p3 p4).bind λg=>(M.vT w w1 y g.1 g.2.1 g.2.2.1 g.2.2.2.1 g.2.2.2.2).bind λs=>(idx s 0).bind λaY4=>s[0]?.bind λh=>(jD .i64 h 0).bind λaY5=>(cStr h 1).bind λU=>(jD .i64 h 2).bind λaY7=>(M.sN l.1 l.2.1 l.2.2 aY5 U aY7).bind λaY8=>cond aY8 (cond ((j.length+1).ble 9223372036854775807) ((M.fG (j++[32])).bind λH=>M.gY qj Uh Xw Yb acf p p1 p2 p3 p4 dh w w1 H k) none) ((M.fG j).bind λaZa=>M.gY qj Uh Xw Yb acf p p1 p2 p3 p4 dh w w1 aZa k)) (cond (Uh==14) ((idx qj 0).bind λaHK=>(jD .i64 aHK 0).bind λaZb=>(M.gV Uh Xw Yb acf qj 0 p p1 p2 p3 p4).bind λb=>(dh w w1 aZb b.1 b.2.1 b.2.2.1 b.2.2.2.1 b.2.2.2.2).bind λaZc=>(M.fG [32,63,32]).bind λaZd=>(idx qj 1).bind λz=>(jD .i64 z 0).bind λaZe=>(M.gV Uh Xw Yb acf qj 1 p p1 p2 p3 p4).bind λd=>(dh w w1 aZe d.1 d.2.1 d.2.2.1 d.2.2.2.1 d.2.2.2.2).bind λaZf=>(M.fG [32,58,32]).bind λL=>(idx qj 2).bind λaHM=>(jD .i64 aHM 0).bind λV=>(M.gV Uh Xw Yb acf qj 2 p p1 p2 p3 p4).bind λf=>(dh w w1 V f.1 f.2.1 f.2.2.1 f.2.2.2.1 f.2.2.2.2).bind λE=>(M.fH 6 0 (aB [[D.sl true 4 aZc],[D.sl true 4 aZd],[D.sl true 4 aZf],[D.sl true 4 L],[D.sl true 4 E]])).bind λo=>cond ([[D.sl true 4 o]].all gI) (k o) none) (cond (Uh==13) (cond ((↑qj.length:Int)==1) ((idx qj 0).bind λA=>(jD .i64 A 0).bind λN=>(M.gV Uh Xw Yb acf qj 0 p p1 p2 p3 p4).bind λc=>(dh w w1 N c.1 c.2.1 c.2.2.1 c.2.2.2.1 c.2.2.2.2).bind λaZk=>cond ((4+Yb.length).ble 9223372036854775807) ((M.fG ([32,105,110,32]++Yb)).bind λY=>(M.fH 6 0 (aB [[D.sl true 4 aZk],[D.sl true 4 Y]])).bind λu=>cond ([[D.sl true 4 u]].all gI) (k u) none) none) ((M.fG [40]).bind λaZm=>M.oz.bind λa=>(nU w w1 qj a.1 a.2.1 a.2.2.1 a.2.2.2.1 a.2.2.2.2).bind λW=>cond ((5+Yb.length).ble 9223372036854775807) ((M.fG ([41,32,105,110,32]++Yb)).bind λG=>(M.fH 6 0 (aB [[D.sl true 4 aZm],[D.sl true 4 W],[D.sl true 4 G]])).bind λn=>cond ([[D.sl true 4 n]].all gI) (k n) none) none)) ((IL w w1 Uh Xw Yb acf qj p p1 p2 p3 p4).bind λaZp=>k aZp))))))))))))
def C.aiD{wo:zar}{uo:zai}{dh:zab}{nU:zak}{IL:zaj}(aiE:S.E9.ok X0 λx=>ng (wo x.1.1.1 x.1.1.2.1) x.1.2.1 x.1.2.2.1 x.1.va.1)(ag4:S.BM.ok X0 λx=>uo x.1.1.1 x.1.1.2.1 x.1.2.1)(H8:S.rM.ok X0 λx=>ng (dh x.1.1.1 x.1.1.2.1 x.1.2.1) x.1.2.2.1)(VW:S.DW.ok X0 λx=>ng (nU x.1.1.1 x.1.1.2.1 x.1.2.1) x.1.2.2.1)(amc:S.J5.ok X0 λx=>ng (ng (IL x.1.1.1 x.1.1.2.1) x.1.2.1) x.1.2.2.1):S.DZ.ok X0 λx=>ng (M.iG wo uo dh nU IL x.1.1.1 x.1.1.2.1 x.1.2.1) x.1.2.2.1 some:=fnS (λx=>M.iG wo uo dh nU IL x.1.1.1 x.1.1.2.1 x.1.2.1 x.1.2.2.1.1 x.1.2.2.1.2.1 x.1.2.2.1.2.2.1 x.1.2.2.1.va.1 x.1.2.2.1.va.2.1) [fe C.dI,fe C.fG,fe aiE,fe C.jO,fe ag4,fe C.fH,fe C.gV,fe H8,fe C.gW,fe C.vT,fe C.sN,fe C.oz,fe VW,fe amc] [] (by intros;unfold M.iG M.gY;exact zbI)
def M.LG(mD:zab)(w:au)(w1:Bool)(i p:Int)(p1 p2 p3 p4:Bool)(k:au->Option R):=(idx w i).bind λc=>JY 1 c λaZq aZr aZs aZt aCO=>((M.Ja aZq aZr aZs aZt aCO p p1 p2 p3 p4).bind λg=>cond g ((mD w w1 i p p1 p2 p3 p4).bind λf=>k f) ((M.fG [40]).bind λd=>M.oz.bind λa=>(mD w w1 i a.1 a.2.1 a.2.2.1 a.2.2.2.1 a.2.2.2.2).bind λh=>(M.fG [41]).bind λe=>(M.fH 6 0 (aB [[D.sl true 4 d],[D.sl true 4 h],[D.sl true 4 e]])).bind λb=>cond ([[D.sl true 4 b]].all gI) (k b) none))
def C.amd{mD:zab}(VX:S.DZ.ok X0 λx=>ng (mD x.1.1.1 x.1.1.2.1 x.1.2.1) x.1.2.2.1):S.rM.ok X0 λx=>ng (M.LG mD x.1.1.1 x.1.1.2.1 x.1.2.1) x.1.2.2.1 some:=fnS (λx=>M.LG mD x.1.1.1 x.1.1.2.1 x.1.2.1 x.1.2.2.1.1 x.1.2.2.1.2.1 x.1.2.2.1.2.2.1 x.1.2.2.1.va.1 x.1.2.2.1.va.2.1) [fe C.Ja,fe VX,fe C.fG,fe C.oz,fe C.fH] [] (by intros;simp only[M.LG,JY];exact zbI)
def M.oK:Nat->(zab)×(zak)×(zar)×(zai)×(zaj)×(zab):=Nat.rec (λ_ _ _ _ _ _ _ _=>none,λ_ _ _ _ _ _ _ _=>none,λ_ _ _ _ _ _ _ _ _=>none,λ_ _ _=>none,λ_ _ _ _ _ _ _ _ _ _ _ _=>none,λ_ _ _ _ _ _ _ _=>none) λ_ qz=>(λw w1 i p p1 p2 p3 p4=>M.LG qz.2.2.2.2.2 w w1 i p p1 p2 p3 p4 some,λw w1 kids p p1 p2 p3 p4=>M.Gj qz.1 w w1 kids p p1 p2 p3 p4 some,λw w1 n' kC ny oM sV open' end'=>M.Dy qz.2.1 w w1 n' kC ny oM sV open' end' some,λw w1 i=>M.BF qz.2.2.2.2.2 w w1 i some,λw w1 n' kC ny oM sV p p1 p2 p3 p4=>M.yI qz.1 w w1 n' kC ny oM sV p p1 p2 p3 p4 some,λw w1 i p p1 p2 p3 p4=>M.iG qz.2.2.1 qz.2.2.2.1 qz.1 qz.2.1 qz.2.2.2.2.1 w w1 i p p1 p2 p3 p4 some)
def M.wu n:=(M.oK n).1
def M.Gq n:=(M.oK n).2.1
def M.IQ n:=(M.oK n).2.2.1
def M.Gs n:=(M.oK n).2.2.2.1
def M.Nu n:=(M.oK n).2.2.2.2.1
def M.Gt n:=(M.oK n).2.2.2.2.2
def M.aoY(n:Nat):M.wu (n+1)=λw w1 i p p1 p2 p3 p4=>M.LG (M.Gt n) w w1 i p p1 p2 p3 p4 some:=rfl
def M.akq(n:Nat):M.Gq (n+1)=λw w1 kids p p1 p2 p3 p4=>M.Gj (M.wu n) w w1 kids p p1 p2 p3 p4 some:=rfl
def M.aiF(n:Nat):M.IQ (n+1)=λw w1 n' kC ny oM sV open' end'=>M.Dy (M.Gq n) w w1 n' kC ny oM sV open' end' some:=rfl
def M.ag5(n:Nat):M.Gs (n+1)=λw w1 i=>M.BF (M.Gt n) w w1 i some:=rfl
def M.ame(n:Nat):M.Nu (n+1)=λw w1 n' kC ny oM sV p p1 p2 p3 p4=>M.yI (M.wu n) w w1 n' kC ny oM sV p p1 p2 p3 p4 some:=rfl
def M.akr(n:Nat):M.Gt (n+1)=λw w1 i p p1 p2 p3 p4=>M.iG (M.IQ n) (M.Gs n) (M.wu n) (M.Gq n) (M.Nu n) w w1 i p p1 p2 p3 p4 some:=rfl
def M.rM w w1 i p p1 p2 p3 p4:=lim λn=>M.wu n w w1 i p p1 p2 p3 p4
def M.DW w w1 kids p p1 p2 p3 p4:=lim λn=>M.Gq n w w1 kids p p1 p2 p3 p4
def M.E9 w w1 n' kC ny oM sV open' end':=lim λn=>M.IQ n w w1 n' kC ny oM sV open' end'
def M.BM w w1 i:=lim λn=>M.Gs n w w1 i
def M.J5 w w1 n' kC ny oM sV p p1 p2 p3 p4:=lim λn=>M.Nu n w w1 n' kC ny oM sV p p1 p2 p3 p4
def M.DZ w w1 i p p1 p2 p3 p4:=lim λn=>M.Gt n w w1 i p p1 p2 p3 p4
def C.oK:∀n,(S.rM.ok X0 λx=>ng (M.wu n x.1.1.1 x.1.1.2.1 x.1.2.1) x.1.2.2.1)/\(S.DW.ok X0 λx=>ng (M.Gq n x.1.1.1 x.1.1.2.1 x.1.2.1) x.1.2.2.1)/\(S.E9.ok X0 λx=>ng (M.IQ n x.1.1.1 x.1.1.2.1) x.1.2.1 x.1.2.2.1 x.1.va.1)/\(S.BM.ok X0 λx=>M.Gs n x.1.1.1 x.1.1.2.1 x.1.2.1)/\(S.J5.ok X0 λx=>ng (ng (M.Nu n x.1.1.1 x.1.1.2.1) x.1.2.1) x.1.2.2.1)/\(S.DZ.ok X0 λx=>ng (M.Gt n x.1.1.1 x.1.1.2.1 x.1.2.1) x.1.2.2.1)
 |0=>⟨fA.zero,fA.zero,fA.zero,fA.zero,fA.zero,fA.zero⟩
 |n+1=>have h:=C.oK n;⟨C.amd h.2.2.2.2.2,C.aiv h.1,C.agZ h.2.1,C.afB h.2.2.2.2.2,C.akp h.1,C.aiD h.2.2.1 h.2.2.2.1 h.1 h.2.1 h.2.2.2.2.1⟩
def C.rM:S.rM.ok X0 λx=>ng (M.rM x.1.1.1 x.1.1.2.1 x.1.2.1) x.1.2.2.1:=fA.lim λn=>(C.oK n).1
def M.amf{n:Nat}{w:au}{w1:Bool}{i p:Int}{p1 p2 p3 p4:Bool}{r:au}(h:M.wu n w w1 i p p1 p2 p3 p4=some r):M.rM w w1 i p p1 p2 p3 p4=some r:=fA.Jf (λn=>(C.oK n).1) (by intro a b h;simp[S.rM,rm,sg] at h;first|exact h|simp[Prod.ext_iff,h]) (x:=(((w,w1,()),i,(p,p1,p2,p3,p4,()),()),())) h
def C.DW:S.DW.ok X0 λx=>ng (M.DW x.1.1.1 x.1.1.2.1 x.1.2.1) x.1.2.2.1:=fA.lim λn=>(C.oK n).2.1
def C.E9:S.E9.ok X0 λx=>ng (M.E9 x.1.1.1 x.1.1.2.1) x.1.2.1 x.1.2.2.1 x.1.va.1:=fA.lim λn=>(C.oK n).2.2.1
def C.BM:S.BM.ok X0 λx=>M.BM x.1.1.1 x.1.1.2.1 x.1.2.1:=fA.lim λn=>(C.oK n).2.2.2.1
def C.J5:S.J5.ok X0 λx=>ng (ng (M.J5 x.1.1.1 x.1.1.2.1) x.1.2.1) x.1.2.2.1:=fA.lim λn=>(C.oK n).2.2.2.2.1
def C.DZ:S.DZ.ok X0 λx=>ng (M.DZ x.1.1.1 x.1.1.2.1 x.1.2.1) x.1.2.2.1:=fA.lim λn=>(C.oK n).2.2.2.2.2
abbrev M.Qe(l:au)(p:Int)(p1 p2 p3 p4:Bool)(k:au->Option R):=(M.J4 l).bind λa=>cond (!a) (k []) ((M.xM p p1 p2 p3 p4).bind λb=>cond (!b) (k []) ((M.rM l false (i64.wrap ((↑l.length:Int) - 1)) p p1 p2 p3 p4).bind λc=>k c))
def M.Ht l p p1 p2 p3 p4:=M.Qe l p p1 p2 p3 p4 some
def C.Ht:=fTa S.Ht (λx=>M.Qe x.1.1 x.1.2.1.1 x.1.2.1.2.1 x.1.2.1.2.2.1 x.1.2.1.va.1 x.1.2.1.va.2.1) [fe C.J4,fe C.xM,fe C.rM]
abbrev M.DC(n':Int)(ny:aC)(k:Bool->Option R)(oM:au)(kC:Int):=cond (n'==1) ((M.yC ny).bind λb=>cond b (k ((↑oM.length:Int)==0)) (k false)) (cond (n'==2) (k ((↑oM.length:Int)==0)) (cond (n'==3) (k ((↑oM.length:Int)==0)) (cond (n'==4) ((M.dP kC 0 40).bind λa=>cond a (k ((↑oM.length:Int)==1)) (k false)) (cond (n'==5) (k ((↑oM.length:Int)==1)) (k (n'==6))))))
def M.Qg(n' kC:Int)(ny:aC)(oM:au)(k:Bool->Option R):=cond (n' !=1) (cond (!ny==[]) (k false) (cond (n' !=4) (cond (kC !=0) (k false) (M.DC n' ny k oM kC)) (M.DC n' ny k oM kC))) (cond (n' !=4) (cond (kC !=0) (k false) (M.DC n' ny k oM kC)) (M.DC n' ny k oM kC))
def M.D5 n' kC ny oM:=M.Qg n' kC ny oM some
def C.D5:S.D5.ok X0 λx=>zbH M.D5 x.1.1:=fnS (λx=>zbH M.Qg x.1.1) [fe C.yC,fe C.dP] [] (by intros;unfold M.Qg M.DC;exact zbI)
def M.zS(l:au)(i:Int)(x':au)(s:Int×Int)(kn:Int×Int->Option R)(ke:(Unit)⊕(Int×Int)->Option R):Option R:=match s with
 |(at',k')=>bif decide (k'>=0) then((idx l i).bind λe=>(cSl 1 e 3).bind λd=>(idx d k').bind λf=>(jD .i64 f 0).bind λb=>bif b !=i64.wrap (at' - 1) then(ke (.inl ())) else bif at'==0 then(ke (.inl ())) else (idx x' (i64.wrap (at' - 1))).bind λg=>(x'[(i64.wrap (at' - 1)).toNat]?).bind λc=>(jD .i64 c 0).bind λa=>kn (a,i64.wrap (k' - 1))) else ke (.inr (at',k'))
def M.FP l i x' s:=M.zS l i x' s (λs=>some (Sum.inl s)) λt=>some (Sum.inr t)
def M.wz l i x' s:=fV (M.FP l i x') s
def F.wz:LE X0 189:=le 7 (IC [dD 0 (pL false 4),dD 4 (pO 300000 0),dD 5 pI,dD 6 pI,dD 7 pI] [dD 300000 zbj]) (λx=>(x.1.va.1,x.1.va.2.1)) (λx s=>((x.1.1,(),x.1.2.2.1,s.1,s.2,()),(x.2.1,()))) (λx=> .sum (.leaf (Unit) (λt=>(Ex.ret,⟨[(2,V.own 300000 0),(3,ou false)],[(300000,Cell.arr false true 0 1 [])]⟩))) (.leaf (Int×Int) (λt=>(Ex.exit 2,⟨[(0,ET 4 x.1.1),(4,V.own 300000 0),(5,iY x.1.2.2.1),(6,iY t.1),(7,iY t.2),(24,ou false)],[(300000,Cell.arr false true 0 1 x.2.1)]⟩)))) (λx=>M.zS x.1.1 x.1.2.2.1 x.2.1) [] [] (by rintro _ _ ⟨_,_⟩ _ _<;>simp only[M.zS,nb]<;>rfl)
def M.zT(l:au)(s:Int×au)(kn:Int×au->Option R)(ke:(Unit)⊕(Int×au)->Option R):Option R:=match s with
 |(i,x')=>bif decide (i<(↑l.length:Int)) then((idx l i).bind λd=>(cSl 1 d 3).bind λb=>(M.wz l i x' (i,i64.wrap ((↑b.length:Int) - 1))).bind λe=>kD e (λf=>ke (.inl ())) λa=>letE a λc=>oV x' [[D.int .i64 c.1]] 8 λg=>kn (i64.wrap (i+1),g)) else ke (.inr (i,x'))
def M.FQ l s:=M.zT l s (λs=>some (Sum.inl s)) λt=>some (Sum.inr t)
def M.wB l s:=fV (M.FQ l) s
def F.wB:LE X0 189:=le 3 (IC [dD 0 (pL false 4),dD 4 (pO 300000 0),dD 5 pI] [dD 300000 zbj]) (λx=>(x.1.2.2.1,x.2.1)) (λx s=>((x.1.1,(),s.1,()),(s.2,()))) (λx=> .sum (.leaf (Unit) (λt=>(Ex.ret,⟨[(2,V.own 300000 0),(3,ou false)],[(300000,Cell.arr false true 0 1 [])]⟩))) (.leaf (Int×au) (λt=>(Ex.exit 0,⟨[(0,ET 4 x.1.1),(4,V.own 300000 0),(5,iY t.1),(12,ou false)],[(300000,Cell.arr false true 0 1 t.2)]⟩)))) (λx=>M.zT x.1.1) [] [F.wz] (by rintro _ _ ⟨_,_⟩ _ _<;>simp only[oV,M.zT,nb]<;>rfl)
abbrev M.LH(l:au)(k:au×Bool->Option R):=(M.wB l (0,[])).bind λb=>kD b (λd=>k ([],false)) λc=>letE c λa=>cond (aj a.2) (k (a.2,true)) none
def M.yN l:=M.LH l some
def C.yN:=fTa S.yN (λx=>M.LH x.1.1) [] [F.wB]
def M.IU(l:au)(s:Int)(kn:Int->Option R)(ke:(Unit)⊕(Int)->Option R):Option R:=match s with
 |i=>bif decide (i<(↑l.length:Int)) then((idx l i).bind λa=>(jD .i64 a 0).bind λc=>(jD .i64 a 1).bind λd=>(cStr a 2).bind λb=>(cSl 1 a 3).bind λe=>(M.D5 c d b e).bind λf=>bif !f then(ke (.inl ())) else kn (i64.wrap (i+1))) else ke (.inr i)
def M.N8 l s:=M.IU l s (λs=>some (Sum.inl s)) λt=>some (Sum.inr t)
def M.Tt l s:=fV (M.N8 l) s
def F.Tt:LE X0 176:=le 4 (IC [dD 0 (pL false 4),dD 3 pI] []) (λx=>x.1.2.1) (λx s=>((x.1.1,s,()),())) (λx=> .sum (.leaf (Unit) (λt=>(Ex.ret,⟨[(2,ou false)],[]⟩))) (.leaf (Int) (λt=>(Ex.exit 0,⟨[(0,ET 4 x.1.1),(3,iY t),(13,ou false)],[]⟩)))) (λx=>M.IU x.1.1) [fe C.D5] [] (by rintro _ _ _ _ _<;>simp only[M.IU,nb]<;>rfl)
abbrev M.Vh(l:au)(k:Bool->Option R):=(M.dP ((↑l.length:Int)) 1 4000).bind λf=>cond (!f) (k false) ((M.Tt l 0).bind λd=>kD d (λi=>k false) λb=>letE b λh=>(M.yN l).bind λa=>cond a.2 ((idx a.1 (i64.wrap ((↑l.length:Int) - 1))).bind λg=>(a.1[(i64.wrap ((↑l.length:Int) - 1)).toNat]?).bind λe=>(jD .i64 e 0).bind λc=>k (c==0)) (k false))
def M.J6 l:=M.Vh l some
def C.J6:=fTa S.J6 (λx=>M.Vh x.1.1) [fe C.dP,fe C.yN] [F.Tt]
def M.qC(l:au)(s:Int×au)(kn:Int×au->Option R)(ke:(Unit)⊕(Int×au)->Option R):Option R:=match s with
 |(i,x')=>bif decide (i<(↑l.length:Int)) then((idx l i).bind λd=>(jD .i64 d 0).bind λa=>bif a==1 then((idx l i).bind λc=>(cStr c 2).bind λb=>bif((x'.length+(List.map byteRow b).length) * 1).ble 140737488355328 then(bif(x'.length+(List.map byteRow b).length).ble 140737488355328 then(kn (i64.wrap (i+1),x'++List.map byteRow b)) else none) else none) else bif a==2 then(bif((x'.length+1) * 1).ble 140737488355328 then(bif(x'.length+1).ble 140737488355328 then(kn (i64.wrap (i+1),x'++[[D.int IntKind.u8 32]])) else none) else none) else bif a==3 then(ke (.inl ())) else kn (i64.wrap (i+1),x')) else ke (.inr (i,x'))
def M.uq l s:=M.qC l s (λs=>some (Sum.inl s)) λt=>some (Sum.inr t)
def M.nX l s:=fV (M.uq l) s
def F.nX:LE X0 146:=le 5 (IC [dD 0 (pL false 4),dD 4 (pO 300000 0),dD 5 pI] [dD 300000 zbj]) (λx=>(x.1.2.2.1,x.2.1)) (λx s=>((x.1.1,(),s.1,()),(s.2,()))) (λx=> .sum (.leaf (Unit) (λt=>(Ex.ret,⟨[(2,V.d (D.str [])),(3,ou false)],[]⟩))) (.leaf (Int×au) (λt=>(Ex.exit 0,⟨[(0,ET 4 x.1.1),(4,V.own 300000 0),(5,iY t.1),(13,ou false)],[(300000,Cell.arr false true 0 1 t.2)]⟩)))) (λx=>M.qC x.1.1) [] [] (by rintro _ _ ⟨_,_⟩ _ _<;>simp only[M.qC,nb]<;>rfl)
abbrev M.IV(l:au)(k:aC×Bool->Option R):=(M.J6 l).bind λd=>cond (!d) (k ([],false)) ((M.nX l (0,[])).bind λc=>kD c (λf=>k ([],false)) λe=>letE e λa=>(bytesOf a.2).bind λb=>k (b,true))
def M.sO l:=M.IV l some
def C.sO:=fTa S.sO (λx=>M.IV x.1.1) [fe C.J6] [F.nX]
abbrev M.N9(l:au)(p:Int)(p1 p2 p3 p4:Bool)(k:aC->Option R):=(M.Ht l p p1 p2 p3 p4).bind λa=>(M.sO (aB a)).bind λb=>k b.1
def M.sQ l p p1 p2 p3 p4:=M.N9 l p p1 p2 p3 p4 some
def C.sQ:=fTa S.sQ (λx=>M.N9 x.1.1 x.1.2.1.1 x.1.2.1.2.1 x.1.2.1.2.2.1 x.1.2.1.va.1 x.1.2.1.va.2.1) [fe C.Ht,fe C.sO]
abbrev M.Ia(zU:Int×au×Int×Int)(Kt:aC)(k:aC×au×Int×Int->Option R):=(M.dn ([[D.str [112,114,105,110,116]],[D.str [112,114,105,110,116,102,32]]]) zU.2.1 zU.2.2.1 zU.2.2.2).bind λb=>(M.dn ([[D.str []],[D.str [32]],[D.str [32,120,44,32]],[D.str [32,120,44,10]]]) b.2.1 b.2.2.1 b.2.2.2).bind λa=>cond ((b.1.length+a.1.length).ble 9223372036854775807) (cond (((b.1++a.1).length+Kt.length).ble 9223372036854775807) ((M.dn ([[D.str []],[D.str []],[D.str [32,62,32,34,102,34]],[D.str [32,62,62,32,34,102,34,32,120]],[D.str [32,124,32,34,115,111,114,116,34]]]) a.2.1 a.2.2.1 a.2.2.2).bind λc=>cond (((b.1++a.1++Kt).length+c.1.length).ble 9223372036854775807) (k (b.1++a.1++Kt++c.1,c.2)) none) none) none
abbrev M.IW(zU:Int×au×Int×Int)(Kt:aC)(dN:zag)(deep:Int)(k:aC×au×Int×Int->Option R)(qZ:zag):=cond (zU.1==0) (cond ((4+Kt.length).ble 9223372036854775807) (cond ((([105,102,32,40]++Kt).length+2).ble 9223372036854775807) ((dN (i64.wrap (deep - 1)) zU.2.1 zU.2.2.1 zU.2.2.2).bind λh=>cond ((([105,102,32,40]++Kt++[41,32]).length+h.1.length).ble 9223372036854775807) (k ([105,102,32,40]++Kt++[41,32]++h.1,h.2)) none) none) none) (cond (zU.1==1) (cond ((4+Kt.length).ble 9223372036854775807) (cond ((([105,102,32,40]++Kt).length+3).ble 9223372036854775807) ((qZ (i64.wrap (deep - 1)) zU.2.1 zU.2.2.1 zU.2.2.2).bind λc=>cond ((([105,102,32,40]++Kt++[41,32,123]).length+c.1.length).ble 9223372036854775807) (cond ((([105,102,32,40]++Kt++[41,32,123]++c.1).length+7).ble 9223372036854775807) ((dN (i64.wrap (deep - 1)) c.2.1 c.2.2.1 c.2.2.2).bind λj=>cond ((([105,102,32,40]++Kt++[41,32,123]++c.1++[125,32,101,108,115,101,32]).length+j.1.length).ble 9223372036854775807) (k ([105,102,32,40]++Kt++[41,32,123]++c.1++[125,32,101,108,115,101,32]++j.1,j.2)) none) none) none) none) none) (cond (zU.1==2) (cond ((7+Kt.length).ble 9223372036854775807) (cond ((([119,104,105,108,101,32,40]++Kt).length+1).ble 9223372036854775807) ((M.dn ([[D.str [32]],[D.str [10]],[D.str [59]]]) zU.2.1 zU.2.2.1 zU.2.2.2).bind λf=>cond ((([119,104,105,108,101,32,40]++Kt++[41]).length+f.1.length).ble 9223372036854775807) ((dN (i64.wrap (deep - 1)) f.2.1 f.2.2.1 f.2.2.2).bind λi=>cond ((([119,104,105,108,101,32,40]++Kt++[41]++f.1).length+i.1.length).ble 9223372036854775807) (k ([119,104,105,108,101,32,40]++Kt++[41]++f.1++i.1,i.2)) none) none) none) none) (cond (zU.1==3) ((dN (i64.wrap (deep - 1)) zU.2.1 zU.2.2.1 zU.2.2.2).bind λa=>cond ((3+a.1.length).ble 9223372036854775807) ((M.dn ([[D.str [59,32]],[D.str [10]]]) a.2.1 a.2.2.1 a.2.2.2).bind λb=>cond ((([100,111,32]++a.1).length+b.1.length).ble 9223372036854775807) (cond ((([100,111,32]++a.1++b.1).length+7).ble 9223372036854775807) (cond ((([100,111,32]++a.1++b.1++[119,104,105,108,101,32,40]).length+Kt.length).ble 9223372036854775807) (cond ((([100,111,32]++a.1++b.1++[119,104,105,108,101,32,40]++Kt).length+1).ble 9223372036854775807) (k ([100,111,32]++a.1++b.1++[119,104,105,108,101,32,40]++Kt++[41],b.2)) none) none) none) none) none) (cond (zU.1==4) ((M.dn ([[D.str [105,32,61,32,48,59,32,105,32,60,32,51,59,32,105,43,43]],[D.str [59,59]],[D.str [107,32,105,110,32,97]],[D.str [40,107,32,105,110,32,97,41,59,59]],[D.str [105,32,61,32,49,59,59,105,43,43]]]) zU.2.1 zU.2.2.1 zU.2.2.2).bind λd=>cond ((5+d.1.length).ble 9223372036854775807) (cond ((([102,111,114,32,40]++d.1).length+2).ble 9223372036854775807) ((dN (i64.wrap (deep - 1)) d.2.1 d.2.2.1 d.2.2.2).bind λg=>cond ((([102,111,114,32,40]++d.1++[41,32]).length+g.1.length).ble 9223372036854775807) (k ([102,111,114,32,40]++d.1++[41,32]++g.1,g.2)) none) none) none) (cond (zU.1==5) ((qZ (i64.wrap (deep - 1)) zU.2.1 zU.2.2.1 zU.2.2.2).bind λe=>cond ((1+e.1.length).ble 9223372036854775807) (cond ((([123]++e.1).length+1).ble 9223372036854775807) (k ([123]++e.1++[125],e.2)) none) none) (cond (zU.1==6) (M.Ia zU Kt k) (cond (zU.1==7) (M.Ia zU Kt k) (cond (zU.1==8) ((M.dn ([[D.str [110,101,120,116]],[D.str [101,120,105,116]],[D.str [114,101,116,117,114,110]],[D.str [98,114,101,97,107]],[D.str [99,111,110,116,105,110,117,101]],[D.str [100,101,108,101,116,101,32,97]],[D.str [100,101,108,101,116,101,32,97,91,49,44,32,120,93]],[D.str [101,120,105,116,32,49]]]) zU.2.1 zU.2.2.1 zU.2.2.2).bind λl=>k (l)) (cond (zU.1==9) (cond ((5+Kt.length).ble 9223372036854775807) (cond ((([120,32,61,32,40]++Kt).length+1).ble 9223372036854775807) (k ([120,32,61,32,40]++Kt++[41],zU.2)) none) none) (k (Kt,zU.2)))))))))))
def M.Cc(dN:zag)(qZ:zag)(deep:Int)(c:au)(c1 c2:Int)(k:aC×au×Int×Int->Option R):=(M.bM 2 c c1 c2).bind λg=>(M.nG (i64.wrap (1+g.1)) g.2.1 g.2.2.1 g.2.2.2).bind λf=>M.oz.bind λd=>(M.sQ (aB f.1) d.1 d.2.1 d.2.2.1 d.2.2.2.1 d.2.2.2.2).bind λi=>(M.bM 14 f.2.1 f.2.2.1 f.2.2.2).bind λh=>cond (decide (deep<=0)) (cond (decide (h.1<6)) ((M.dn ([[D.str [112,114,105,110,116]],[D.str [112,114,105,110,116,102,32]]]) h.2.1 h.2.2.1 h.2.2.2).bind λa=>(M.dn ([[D.str []],[D.str [32]],[D.str [32,120,44,32]],[D.str [32,120,44,10]]]) a.2.1 a.2.2.1 a.2.2.2).bind λb=>cond ((a.1.length+b.1.length).ble 9223372036854775807) (cond (((a.1++b.1).length+i.length).ble 9223372036854775807) ((M.dn ([[D.str []],[D.str []],[D.str [32,62,32,34,102,34]],[D.str [32,62,62,32,34,102,34,32,120]],[D.str [32,124,32,34,115,111,114,116,34]]]) b.2.1 b.2.2.1 b.2.2.2).bind λe=>cond (((a.1++b.1++i).length+e.1.length).ble 9223372036854775807) (k (a.1++b.1++i++e.1,e.2)) none) none) none) (M.IW h i dN deep k qZ)) (M.IW h i dN deep k qZ)
def C.aiG{dN:zag}{qZ:zag}(Ku:S.Ar.ok X0 λx=>dN x.1.2.1 x.2.1.1 x.2.1.2.1 x.2.1.2.2.1)(aks:S.tN.ok X0 λx=>qZ x.1.2.1 x.2.1.1 x.2.1.2.1 x.2.1.2.2.1):S.Ar.ok X0 λx=>M.Cc dN qZ x.1.2.1 x.2.1.1 x.2.1.2.1 x.2.1.2.2.1 some:=fnS (λx=>M.Cc dN qZ x.1.2.1 x.2.1.1 x.2.1.2.1 x.2.1.2.2.1) [fe C.bM,fe C.nG,fe C.oz,fe C.sQ,fe C.dn,fe Ku,fe aks] [] (by intros;unfold M.Cc M.IW;exact zbI)
def M.Jz(dN:zag)(deep:Int)(s:aC×Int×au×Int×Int)(kn:aC×Int×au×Int×Int->Option R)(ke:aC×Int×au×Int×Int->Option R):Option R:=match s with
 |(s',n',v,v1,v2)=>bif decide (n'>0) then((M.dn ([[D.str []],[D.str [10]],[D.str [32]],[D.str [35,32,99,10]],[D.str [59,32]]]) v v1 v2).bind λa=>bif(s'.length+a.1.length).ble 9223372036854775807 then((dN deep a.2.1 a.2.2.1 a.2.2.2).bind λb=>bif((s'++a.1).length+b.1.length).ble 9223372036854775807 then((M.dn ([[D.str [59]],[D.str [10]],[D.str [10]],[D.str [32,35,32,116,10]],[D.str [59,10]]]) b.2.1 b.2.2.1 b.2.2.2).bind λc=>bif((s'++a.1++b.1).length+c.1.length).ble 9223372036854775807 then(kn (s'++a.1++b.1++c.1,i64.wrap (n' - 1),c.2.1,c.2.2.1,c.2.2.2)) else none) else none) else none) else ke (s',n',v,v1,v2)
def M.Qh dN deep s:=M.Jz dN deep s (λs=>some (Sum.inl s)) λt=>some (Sum.inr t)
def M.zM dN deep s:=fV (M.Qh dN deep) s
def F.zM{dN:zag}(Ku:S.Ar.ok X0 λx=>dN x.1.2.1 x.2.1.1 x.2.1.2.1 x.2.1.2.2.1):LE X0 107:=le 3 (IC [dD 0 (pP 100000 0),dD 1 pI,dD 5 pS,dD 6 pI] [dD 100000 (cB 67 zbt)]) (λx=>(x.1.2.2.1,x.1.va.1,x.2.1.1,x.2.1.2.1,x.2.1.2.2.1)) (λx s=>(((),x.1.2.1,s.1,s.2.1,()),((s.2.2.1,s.va.1,s.va.2,()),()))) (λx=> .leaf zaR (λt=>(Ex.exit 0,⟨[(0,V.ptr 100000 0),(1,iY x.1.2.1),(5,qU t.1),(6,iY t.2.1),(10,ou false)],[(100000,Cell.box 67 [ET 1 t.2.2.1,iY t.va.1,iY t.va.2])]⟩))) (λx=>M.Jz dN x.1.2.1) [fe C.dn,fe Ku] [] (by rintro _ _ ⟨_,_,_,_,_⟩ _ _<;>simp only[M.Jz,nb]<;>rfl)
def M.Ce(dN:zag)(deep:Int)(c:au)(c1 c2:Int)(k:aC×au×Int×Int->Option R):=(M.bM 3 c c1 c2).bind λa=>(M.zM dN deep ([],a)).bind λb=>k (b.1,b.2.2)
def C.aiH{dN:zag}(Ku:S.Ar.ok X0 λx=>dN x.1.2.1 x.2.1.1 x.2.1.2.1 x.2.1.2.2.1):S.tN.ok X0 λx=>M.Ce dN x.1.2.1 x.2.1.1 x.2.1.2.1 x.2.1.2.2.1 some:=fnS (λx=>M.Ce dN x.1.2.1 x.2.1.1 x.2.1.2.1 x.2.1.2.2.1) [fe C.bM] [F.zM Ku] (by intros;simp only[M.Ce,nb]<;>rfl)
def M.Ci:Nat->(zag)×(zag):=Nat.rec (λ_ _ _ _=>none,λ_ _ _ _=>none) λ_ qz=>(λdeep c c1 c2=>M.Ce qz.2 deep c c1 c2 some,λdeep c c1 c2=>M.Cc qz.2 qz.1 deep c c1 c2 some)
def M.Gu n:=(M.Ci n).1
def M.Cj n:=(M.Ci n).2
def M.akt(n:Nat):M.Gu (n+1)=λdeep c c1 c2=>M.Ce (M.Cj n) deep c c1 c2 some:=rfl
def M.aku(n:Nat):M.Cj (n+1)=λdeep c c1 c2=>M.Cc (M.Cj n) (M.Gu n) deep c c1 c2 some:=rfl
def M.tN deep c c1 c2:=lim λn=>M.Gu n deep c c1 c2
def M.Ar deep c c1 c2:=lim λn=>M.Cj n deep c c1 c2
def C.Ci:∀n,(S.tN.ok X0 λx=>M.Gu n x.1.2.1 x.2.1.1 x.2.1.2.1 x.2.1.2.2.1)/\(S.Ar.ok X0 λx=>M.Cj n x.1.2.1 x.2.1.1 x.2.1.2.1 x.2.1.2.2.1)
 |0=>⟨fA.zero,fA.zero⟩
 |n+1=>have h:=C.Ci n;⟨C.aiH h.2,C.aiG h.2 h.1⟩
def C.tN:S.tN.ok X0 λx=>M.tN x.1.2.1 x.2.1.1 x.2.1.2.1 x.2.1.2.2.1:=fA.lim λn=>(C.Ci n).1
def M.aiI{n:Nat}{deep:Int}{c:au}{c1 c2:Int}{r:aC×au×Int×Int}(h:M.Gu n deep c c1 c2=some r):M.tN deep c c1 c2=some r:=fA.Jf (λn=>(C.Ci n).1) (by intro a b h;simp[S.tN,sg] at h;first|exact h|simp[Prod.ext_iff,h]) (x:=(((),deep,()),((c,c1,c2,()),()))) h
def C.Ar:S.Ar.ok X0 λx=>M.Ar x.1.2.1 x.2.1.1 x.2.1.2.1 x.2.1.2.2.1:=fA.lim λn=>(C.Ci n).2
abbrev M.Qi(c:au)(c1 c2:Int)(k:aC×au×Int×Int->Option R):=(M.tN 2 c c1 c2).bind λa=>cond ((2+a.1.length).ble 9223372036854775807) (cond ((([32,123]++a.1).length+1).ble 9223372036854775807) ((M.nG 1 a.2.1 a.2.2.1 a.2.2.2).bind λl=>M.oz.bind λi=>(M.sQ (aB l.1) i.1 i.2.1 i.2.2.1 i.2.2.2.1 i.2.2.2.2).bind λd=>(M.bM 6 l.2.1 l.2.2.1 l.2.2.2).bind λb=>cond (b.1==0) ((M.dn ([[D.str [66,69,71,73,78]],[D.str [69,78,68]]]) b.2.1 b.2.2.1 b.2.2.2).bind λj=>cond ((j.1.length+([32,123]++a.1++[125]).length).ble 9223372036854775807) (k (j.1++([32,123]++a.1++[125]),j.2)) none) (cond (b.1==1) ((M.dn ([[D.str [102,40]],[D.str [102,32,40]]]) b.2.1 b.2.2.1 b.2.2.2).bind λe=>cond ((9+e.1.length).ble 9223372036854775807) ((M.dn ([[D.str []],[D.str [120]],[D.str [120,44,32,121]],[D.str [120,44,10,121]]]) e.2.1 e.2.2.1 e.2.2.2).bind λf=>cond ((([102,117,110,99,116,105,111,110,32]++e.1).length+f.1.length).ble 9223372036854775807) (cond ((([102,117,110,99,116,105,111,110,32]++e.1++f.1).length+1).ble 9223372036854775807) ((M.dn ([[D.str []],[D.str [10]],[D.str [32,35,32,100,10]]]) f.2.1 f.2.2.1 f.2.2.2).bind λg=>cond ((([102,117,110,99,116,105,111,110,32]++e.1++f.1++[41]).length+g.1.length).ble 9223372036854775807) (cond ((([102,117,110,99,116,105,111,110,32]++e.1++f.1++[41]++g.1).length+([32,123]++a.1++[125]).length).ble 9223372036854775807) (k ([102,117,110,99,116,105,111,110,32]++e.1++f.1++[41]++g.1++([32,123]++a.1++[125]),g.2)) none) none) none) none) none) (cond (b.1==2) (k (d,b.2)) (cond (b.1==3) (cond ((d.length+2).ble 9223372036854775807) (cond (((d++[44,32]).length+d.length).ble 9223372036854775807) ((M.dn ([[D.str []],[D.str ([32,123]++a.1++[125])]]) b.2.1 b.2.2.1 b.2.2.2).bind λh=>cond (((d++[44,32]++d).length+h.1.length).ble 9223372036854775807) (k (d++[44,32]++d++h.1,h.2)) none) none) none) (cond (b.1==4) (k ([32,123]++a.1++[125],b.2)) (cond ((d.length+([32,123]++a.1++[125]).length).ble 9223372036854775807) (k (d++([32,123]++a.1++[125]),b.2)) none)))))) none) none
def M.D6 c c1 c2:=M.Qi c c1 c2 some
def C.D6:=fTa S.D6 (λx=>M.Qi x.2.1.1 x.2.1.2.1 x.2.1.2.2.1) [fe C.tN,fe C.nG,fe C.oz,fe C.sQ,fe C.bM,fe C.dn]
def M.FT(s:aC×Int×au×Int×Int)(kn:aC×Int×au×Int×Int->Option R)(ke:aC×Int×au×Int×Int->Option R):Option R:=match s with
 |(s',n',v,v1,v2)=>bif decide (n'>0) then((M.dn ([[D.str []],[D.str [10]],[D.str [35,32,116,111,112,10]],[D.str []]]) v v1 v2).bind λa=>bif(s'.length+a.1.length).ble 9223372036854775807 then((M.D6 a.2.1 a.2.2.1 a.2.2.2).bind λb=>bif((s'++a.1).length+b.1.length).ble 9223372036854775807 then((M.dn ([[D.str [10]],[D.str [10,10]],[D.str [59]],[D.str [32,35,32,101,10]]]) b.2.1 b.2.2.1 b.2.2.2).bind λc=>bif((s'++a.1++b.1).length+c.1.length).ble 9223372036854775807 then(kn (s'++a.1++b.1++c.1,i64.wrap (n' - 1),c.2.1,c.2.2.1,c.2.2.2)) else none) else none) else none) else ke (s',n',v,v1,v2)
def M.MN s:=M.FT s (λs=>some (Sum.inl s)) λt=>some (Sum.inr t)
def M.wC s:=fV (M.MN) s
def F.wC:LE X0 33:=le 3 (IC [dD 0 (pP 100000 0),dD 3 pS,dD 4 pI] [dD 100000 (cB 67 zbt)]) (λx=>(x.1.2.1,x.1.2.2.1,x.2.1.1,x.2.1.2.1,x.2.1.2.2.1)) (λx s=>(((),s.1,s.2.1,()),((s.2.2.1,s.va.1,s.va.2,()),()))) (λx=> .leaf zaR (λt=>(Ex.exit 0,⟨[(0,V.ptr 100000 0),(3,qU t.1),(4,iY t.2.1),(8,ou false)],[(100000,Cell.box 67 [ET 1 t.2.2.1,iY t.va.1,iY t.va.2])]⟩))) (λx=>M.FT) [fe C.dn,fe C.D6] [] (by rintro _ _ ⟨_,_,_,_,_⟩ _ _<;>simp only[M.FT,nb]<;>rfl)
abbrev M.LJ(c:au)(c1 c2:Int)(k:aC×au×Int×Int->Option R):=(M.bM 4 c c1 c2).bind λb=>(M.wC ([],b)).bind λa=>k (a.1,a.2.2)
def M.vU c c1 c2:=M.LJ c c1 c2 some
def C.vU:=fTa S.vU (λx=>M.LJ x.2.1.1 x.2.1.2.1 x.2.1.2.2.1) [fe C.bM] [F.wC]
def M.LK(style:Int)(s:Int×au×Int×Int×au)(kn:Int×au×Int×Int×au->Option R)(ke:Int×au×Int×Int×au->Option R):Option R:=match s with
 |(n',v,v1,v2,x')=>bif decide (n'>0) then((M.nC v v1 v2).bind λa=>bif style==1 then(bif style==2 then(oV x' [[D.int IntKind.u8 (IntKind.u8.wrap (i64.wrap (97+(a.1.tmod 2).tmod 4)))]] 1 λza=>kn (i64.wrap (n' - 1),a.2.1,a.2.2.1,a.2.2.2,za)) else oV x' [[D.int IntKind.u8 (IntKind.u8.wrap (a.1.tmod 2))]] 1 λza=>kn (i64.wrap (n' - 1),a.2.1,a.2.2.1,a.2.2.2,za)) else bif style==2 then(oV x' [[D.int IntKind.u8 (IntKind.u8.wrap (i64.wrap (97+a.1.tmod 4)))]] 1 λza=>kn (i64.wrap (n' - 1),a.2.1,a.2.2.1,a.2.2.2,za)) else oV x' [[D.int IntKind.u8 (IntKind.u8.wrap a.1)]] 1 λza=>kn (i64.wrap (n' - 1),a.2.1,a.2.2.1,a.2.2.2,za)) else ke (n',v,v1,v2,x')
def M.RF style s:=M.LK style s (λs=>some (Sum.inl s)) λt=>some (Sum.inr t)
def M.Gv style s:=fV (M.RF style) s
def F.Gv:LE X0 65:=le 4 (IC [dD 0 (pP 100000 0),dD 5 (pO 300000 0),dD 6 pI,dD 7 pI] [dD 100000 (cB 67 zbt),dD 300000 zbj]) (λx=>(x.1.va.1,x.2.1.1,x.2.1.2.1,x.2.1.2.2.1,x.2.2.1)) (λx s=>(((),(),x.1.2.2.1,s.1,()),((s.2.1,s.2.2.1,s.va.1,()),s.va.2,()))) (λx=> .leaf zaJ (λt=>(Ex.exit 0,⟨[(0,V.ptr 100000 0),(5,V.own 300000 0),(6,iY x.1.2.2.1),(7,iY t.1),(17,ou false)],[(100000,Cell.box 67 [ET 1 t.2.1,iY t.2.2.1,iY t.va.1]),(300000,Cell.arr false true 0 1 t.va.2)]⟩))) (λx=>M.LK x.1.2.2.1) [fe C.nC] [] (by rintro _ _ ⟨_,_,_,_,_⟩ _ _<;>simp only[oV,M.LK,nb]<;>rfl)
abbrev M.Tv(most:Int)(c:au)(c1 c2:Int)(k:aC×au×Int×Int->Option R):=(M.bM 4 c c1 c2).bind λb=>(M.bM (i64.wrap (most+1)) b.2.1 b.2.2.1 b.2.2.2).bind λd=>(M.Gv b.1 (d.1,d.2.1,d.2.2.1,d.2.2.2,[])).bind λa=>(bytesOf a.2.2.2.2).bind λe=>k (e,a.2.1,a.2.2.1,a.2.2.2.1)
def M.G9 most c c1 c2:=M.Tv most c c1 c2 some
def C.G9:=fTa S.G9 (λx=>M.Tv x.1.2.1 x.2.1.1 x.2.1.2.1 x.2.1.2.2.1) [fe C.bM] [F.Gv]
abbrev M.Qj(s':aC)(c:au)(c1 c2:Int)(k:aC×au×Int×Int->Option R):=cond ((↑s'.length:Int)==0) ((M.G9 3 c c1 c2).bind λf=>k (f)) ((M.bM ((↑s'.length:Int)) c c1 c2).bind λb=>(M.bM 4 b.2.1 b.2.2.1 b.2.2.2).bind λa=>cond (a.1==0) ((cut s' 0 b.1).bind λm=>(cut s' (i64.wrap (b.1+1)) (↑s'.length:Int)).bind λn=>cond ((m.length+n.length).ble 9223372036854775807) (k (m++n,a.2)) none) (cond (a.1==1) ((cut s' 0 b.1).bind λg=>(M.nC a.2.1 a.2.2.1 a.2.2.2).bind λe=>cond ((g.length+[UInt8.ofNat (IntKind.u8.wrap e.1).toNat].length).ble 9223372036854775807) ((cut s' b.1 (↑s'.length:Int)).bind λj=>cond (((g++[UInt8.ofNat (IntKind.u8.wrap e.1).toNat]).length+j.length).ble 9223372036854775807) (k (g++[UInt8.ofNat (IntKind.u8.wrap e.1).toNat]++j,e.2)) none) none) (cond (a.1==2) ((cut s' 0 b.1).bind λo=>k (o,a.2)) ((cut s' 0 b.1).bind λi=>(idx s' b.1).bind λh=>(M.bM 255 a.2.1 a.2.2.1 a.2.2.2).bind λd=>cond ((i.length+[UInt8.ofNat (IntKind.u8.wrap (i64.wrap (↑(BitVec.ofInt 64 (i64.wrap (↑h.toNat:Int)) ^^^ BitVec.ofInt 64 (i64.wrap (1+d.1))).toNat:Int))).toNat].length).ble 9223372036854775807) ((cut s' (i64.wrap (b.1+1)) (↑s'.length:Int)).bind λl=>cond (((i++[UInt8.ofNat (IntKind.u8.wrap (i64.wrap (↑(BitVec.ofInt 64 (i64.wrap (↑h.toNat:Int)) ^^^ BitVec.ofInt 64 (i64.wrap (1+d.1))).toNat:Int))).toNat]).length+l.length).ble 9223372036854775807) (k (i++[UInt8.ofNat (IntKind.u8.wrap (i64.wrap (↑(BitVec.ofInt 64 (i64.wrap (↑h.toNat:Int)) ^^^ BitVec.ofInt 64 (i64.wrap (1+d.1))).toNat:Int))).toNat]++l,d.2)) none) none))))
def M.yE s' c c1 c2:=M.Qj s' c c1 c2 some
def C.yE:=fTa S.yE (λx=>M.Qj x.1.2.1 x.2.1.1 x.2.1.2.1 x.2.1.2.2.1) [fe C.G9,fe C.bM,fe C.nC]
abbrev M.Qk(c:au)(c1 c2:Int)(k:Int×aC×Int×au×Int×Int->Option R):=(M.bM 10 c c1 c2).bind λa=>cond (a.1==0) ((M.EW a.2.1 a.2.2.1 a.2.2.2).bind λj=>k (3,j.1,0,j.2)) (cond (a.1==1) ((M.EY a.2.1 a.2.2.1 a.2.2.2).bind λf=>k (4,f.1,0,f.2)) (cond (a.1==2) ((M.EZ a.2.1 a.2.2.1 a.2.2.2).bind λg=>k (5,g.1,0,g.2)) (cond (a.1==3) ((M.nD a.2.1 a.2.2.1 a.2.2.2).bind λi=>k (6,i.1,0,i.2)) (cond (a.1==4) ((M.nD a.2.1 a.2.2.1 a.2.2.2).bind λe=>k (6,e.1,0,e.2)) (cond (a.1==5) (M.qM.bind λm=>(M.dn m a.2.1 a.2.2.1 a.2.2.2).bind λh=>k (8,h.1,0,h.2)) (cond (a.1==6) ((M.bM 17 a.2.1 a.2.2.1 a.2.2.2).bind λb=>(M.jO (i64.wrap (10+b.1))).bind λl=>k (i64.wrap (10+b.1),l,0,b.2)) ((M.bM 39 a.2.1 a.2.2.1 a.2.2.2).bind λd=>(M.jO (i64.wrap (30+d.1))).bind λn=>k (i64.wrap (30+d.1),n,0,d.2))))))))
def M.vV c c1 c2:=M.Qk c c1 c2 some
def C.vV:=fTa S.vV (λx=>M.Qk x.2.1.1 x.2.1.2.1 x.2.1.2.2.1) [fe C.bM,fe C.EW,fe C.EY,fe C.EZ,fe C.nD,fe C.qM,fe C.dn,fe C.jO]
abbrev M.xW(kind:Int)(k:Bool->Option R):=cond (kind==3) (k true) (cond (kind==4) (k true) (cond (kind==5) (k true) (cond (kind==6) (k true) (cond (kind==8) (k true) (cond (kind==33) (k true) (cond (kind==35) (k true) (cond (kind==51) (k true) (cond (kind==52) (k true) (k false)))))))))
def M.fB kind:=M.xW kind some
def C.fB:=fTa S.fB (λx=>M.xW x.1.1)
abbrev M.jq(x':au)(kn:Int×au×Int×Int×au->Option R)(n':Int)(zV:Int×aC×Int×au×Int×Int):=cond (((x'.length+1) * 32).ble 140737488355328) (cond ((x'.length+1).ble 140737488355328) (kn (i64.wrap (n' - 1),zV.2.2.2.1,zV.2.2.2.2.1,zV.2.2.2.2.2,x'++[[D.int .i64 1,D.str [10],D.int .i64 0]])) none) none
abbrev M.wE(ao2:Bool×au×Int×Int)(x':au)(kn:Int×au×Int×Int×au->Option R)(n':Int)(zV:Int×aC×Int×au×Int×Int):=cond ao2.1 ((M.dn ([[D.str [35]],[D.str [35,32,97]],[D.str [35,34,120]]]) ao2.2.1 ao2.2.2.1 ao2.2.2.2).bind λa=>cond (((x'.length+[[D.int .i64 2,D.str a.1,D.int .i64 0]].length) * 32).ble 140737488355328) (cond ((x'.length+[[D.int .i64 2,D.str a.1,D.int .i64 0]].length).ble 140737488355328) (cond ((((x'++[[D.int .i64 2,D.str a.1,D.int .i64 0]]).length+1) * 32).ble 140737488355328) (cond (((x'++[[D.int .i64 2,D.str a.1,D.int .i64 0]]).length+1).ble 140737488355328) (kn (i64.wrap (n' - 1),a.2.1,a.2.2.1,a.2.2.2,x'++[[D.int .i64 2,D.str a.1,D.int .i64 0]]++[[D.int .i64 1,D.str [10],D.int .i64 0]])) none) none) none) none) (cond (((x'.length+[[D.int .i64 zV.1,D.str zV.2.1,D.int .i64 zV.2.2.1]].length) * 32).ble 140737488355328) (cond ((x'.length+[[D.int .i64 zV.1,D.str zV.2.1,D.int .i64 zV.2.2.1]].length).ble 140737488355328) (kn (i64.wrap (n' - 1),ao2.2.1,ao2.2.2.1,ao2.2.2.2,x'++[[D.int .i64 zV.1,D.str zV.2.1,D.int .i64 zV.2.2.1]])) none) none)
abbrev M.gZ(zV:Int×aC×Int×au×Int×Int)(x':au)(kn:Int×au×Int×Int×au->Option R)(n':Int):=cond (zV.1==6) ((M.rX 4 zV.2.2.2.1 zV.2.2.2.2.1 zV.2.2.2.2.2).bind λa=>cond a.1 (cond (((x'.length+[[D.int .i64 7,D.str zV.2.1,D.int .i64 zV.2.2.1]].length) * 32).ble 140737488355328) (cond ((x'.length+[[D.int .i64 7,D.str zV.2.1,D.int .i64 zV.2.2.1]].length).ble 140737488355328) (cond ((((x'++[[D.int .i64 7,D.str zV.2.1,D.int .i64 zV.2.2.1]]).length+1) * 32).ble 140737488355328) (cond (((x'++[[D.int .i64 7,D.str zV.2.1,D.int .i64 zV.2.2.1]]).length+1).ble 140737488355328) (kn (i64.wrap (n' - 1),a.2.1,a.2.2.1,a.2.2.2,x'++[[D.int .i64 7,D.str zV.2.1,D.int .i64 zV.2.2.1]]++[[D.int .i64 32,D.str [40],D.int .i64 0]])) none) none) none) none) ((M.rX 20 a.2.1 a.2.2.1 a.2.2.2).bind λc=>M.wE c x' kn n' zV)) ((M.rX 20 zV.2.2.2.1 zV.2.2.2.2.1 zV.2.2.2.2.2).bind λb=>M.wE b x' kn n' zV)
def M.Cm(s:Int×au×Int×Int×au)(kn:Int×au×Int×Int×au->Option R)(ke:Int×au×Int×Int×au->Option R):Option R:=match s with
 |(n',v,v1,v2,x')=>bif decide (n'>0) then(bif decide ((↑x'.length:Int)>0) then((idx x' (i64.wrap ((↑x'.length:Int) - 1))).bind λo=>(x'[(i64.wrap ((↑x'.length:Int) - 1)).toNat]?).bind λd=>(jD .i64 d 0).bind λc=>(M.vV v v1 v2).bind λb=>bif b.1==5 then((M.fB c).bind λh=>bif h then(M.jq x' kn n' b) else bif b.1==58 then((M.fB c).bind λe=>bif !e then(M.jq x' kn n' b) else M.gZ b x' kn n') else bif b.1==41 then((M.fB c).bind λf=>bif !f then(M.jq x' kn n' b) else M.gZ b x' kn n') else M.gZ b x' kn n') else bif b.1==58 then((M.fB c).bind λn=>bif !n then(M.jq x' kn n' b) else M.gZ b x' kn n') else bif b.1==41 then((M.fB c).bind λj=>bif !j then(M.jq x' kn n' b) else M.gZ b x' kn n') else M.gZ b x' kn n') else (M.vV v v1 v2).bind λa=>bif a.1==5 then((M.fB 0).bind λm=>bif m then(M.jq x' kn n' a) else bif a.1==58 then((M.fB 0).bind λi=>bif !i then(M.jq x' kn n' a) else M.gZ a x' kn n') else bif a.1==41 then((M.fB 0).bind λk=>bif !k then(M.jq x' kn n' a) else M.gZ a x' kn n') else M.gZ a x' kn n') else bif a.1==58 then((M.fB 0).bind λg=>bif !g then(M.jq x' kn n' a) else M.gZ a x' kn n') else bif a.1==41 then((M.fB 0).bind λl=>bif !l then(M.jq x' kn n' a) else M.gZ a x' kn n') else M.gZ a x' kn n') else ke (n',v,v1,v2,x')
def M.Ib s:=M.Cm s (λs=>some (Sum.inl s)) λt=>some (Sum.inr t)
def M.xX s:=fV (M.Ib) s
def F.xX:LE X0 69:=le 3 (IC [dD 0 (pP 100000 0),dD 5 (pO 300000 0),dD 6 pI] [dD 100000 (cB 67 zbt),dD 300000 (cA false true 0 3)]) (λx=>(x.1.2.2.1,x.2.1.1,x.2.1.2.1,x.2.1.2.2.1,x.2.2.1)) (λx s=>(((),(),s.1,()),((s.2.1,s.2.2.1,s.va.1,()),s.va.2,()))) (λx=> .leaf zaJ (λt=>(Ex.exit 0,⟨[(0,V.ptr 100000 0),(5,V.own 300000 0),(6,iY t.1),(15,ou false)],[(100000,Cell.box 67 [ET 1 t.2.1,iY t.2.2.1,iY t.va.1]),(300000,Cell.arr false true 0 3 t.va.2)]⟩))) (λx=>M.Cm) [fe C.vV,fe C.fB,fe C.rX,fe C.dn] [] (by rintro _ _ ⟨_,_,_,_,_⟩ _ _<;>unfold M.Cm M.gZ M.wE M.jq<;>exact zbI)
abbrev M.Oa(most:Int)(c:au)(c1 c2:Int)(k:au×au×Int×Int->Option R):=(M.bM (i64.wrap (most+1)) c c1 c2).bind λf=>(M.xX (f.1,f.2.1,f.2.2.1,f.2.2.2,[])).bind λa=>cond (decide ((↑a.2.2.2.2.length:Int)>0)) ((M.rX 10 a.2.1 a.2.2.1 a.2.2.2.1).bind λe=>cond e.1 ((M.bM ((↑a.2.2.2.2.length:Int)) e.2.1 e.2.2.1 e.2.2.2).bind λd=>(M.vV d.2.1 d.2.2.1 d.2.2.2).bind λb=>(idx a.2.2.2.2 d.1).bind λh=>a.2.2.2.2[d.1.toNat]?.bind λg=>cond (aj (a.2.2.2.2.set d.1.toNat (splice g 0 [D.int .i64 b.1,D.str b.2.1,D.int .i64 b.2.2.1]))) (k (a.2.2.2.2.set d.1.toNat (splice g 0 [D.int .i64 b.1,D.str b.2.1,D.int .i64 b.2.2.1]),b.2.2.2)) none) (cond (aj a.2.2.2.2) (k (a.2.2.2.2,e.2)) none)) (cond (aj a.2.2.2.2) (k (a.2.2.2.2,a.2.1,a.2.2.1,a.2.2.2.1)) none)
def M.Bl most c c1 c2:=M.Oa most c c1 c2 some
def C.Bl:=fTa S.Bl (λx=>M.Oa x.1.2.1 x.2.1.1 x.2.1.2.1 x.2.1.2.2.1) [fe C.bM,fe C.rX,fe C.vV] [F.xX]
def M.IX(l:au)(s:aC×Int)(kn:aC×Int->Option R)(ke:aC×Int->Option R):Option R:=match s with
 |(s',i)=>bif decide (i<(↑l.length:Int)) then(bif decide (i>0) then((idx l (i64.wrap (i - 1))).bind λb=>(jD .i64 b 0).bind λf=>(cStr b 1).bind λh=>(jD .i64 b 2).bind λk=>(idx l i).bind λa=>(jD .i64 a 0).bind λm=>(cStr a 1).bind λn=>(jD .i64 a 2).bind λg=>(M.sN f h k m n g).bind λo=>bif o then(bif(s'.length+1).ble 9223372036854775807 then((idx l i).bind λp=>(cStr p 1).bind λe=>bif((s'++[32]).length+e.length).ble 9223372036854775807 then(kn (s'++[32]++e,i64.wrap (i+1))) else none) else none) else (idx l i).bind λq=>(cStr q 1).bind λc=>bif(s'.length+c.length).ble 9223372036854775807 then(kn (s'++c,i64.wrap (i+1))) else none) else (idx l i).bind λj=>(cStr j 1).bind λd=>bif(s'.length+d.length).ble 9223372036854775807 then(kn (s'++d,i64.wrap (i+1))) else none) else ke (s',i)
def M.Ob l s:=M.IX l s (λs=>some (Sum.inl s)) λt=>some (Sum.inr t)
def M.Fp l s:=fV (M.Ob l) s
def F.Fp:LE X0 68:=le 3 (IC [dD 0 (pL false 3),dD 3 pS,dD 4 pI] []) (λx=>(x.1.2.1,x.1.2.2.1)) (λx s=>((x.1.1,s.1,s.2,()),())) (λx=> .leaf (aC×Int) (λt=>(Ex.exit 0,⟨[(0,ET 3 x.1.1),(3,qU t.1),(4,iY t.2),(8,ou false)],[]⟩))) (λx=>M.IX x.1.1) [fe C.sN] [] (by rintro _ _ ⟨_,_⟩ _ _<;>simp only[M.IX,nb]<;>rfl)
abbrev M.Vj(l:au)(k:aC->Option R):=(M.Fp l ([],0)).bind λa=>k a.1
def M.OC l:=M.Vj l some
def C.OC:=fTa S.OC (λx=>M.Vj x.1.1) [] [F.Fp]
abbrev M.Oc(c:au)(c1 c2:Int)(k:aC×au×Int×Int->Option R):=(M.Bl 14 c c1 c2).bind λg=>(M.OC g.1).bind λd=>(M.bM 6 g.2.1 g.2.2.1 g.2.2.2).bind λa=>cond (a.1==0) ((M.yE d a.2.1 a.2.2.1 a.2.2.2).bind λf=>k (f)) (cond (a.1==1) ((M.dn ([[D.str [92,10]],[D.str [32,9]],[D.str [97,98,99,100,101,102,103,104,105,106,107,108,109]],[D.str [64]],[D.str [34,111,112,101,110]],[D.str [47,120]],[D.str [46,46]],[D.str [35,32,101,110,100]]]) a.2.1 a.2.2.1 a.2.2.2).bind λb=>cond ((d.length+b.1.length).ble 9223372036854775807) ((M.dn ([[D.str []],[D.str [120]]]) b.2.1 b.2.2.1 b.2.2.2).bind λe=>cond (((d++b.1).length+e.1.length).ble 9223372036854775807) (k (d++b.1++e.1,e.2)) none) none) (k (d,a.2)))
def M.Bo c c1 c2:=M.Oc c c1 c2 some
def C.Bo:=fTa S.Bo (λx=>M.Oc x.2.1.1 x.2.1.2.1 x.2.1.2.2.1) [fe C.Bl,fe C.OC,fe C.bM,fe C.yE,fe C.dn]
abbrev M.Tz(c:au)(c1 c2:Int)(k:aC×au×Int×Int->Option R):=(M.bM 8 c c1 c2).bind λa=>cond (a.1==0) ((M.vU a.2.1 a.2.2.1 a.2.2.2).bind λe=>(M.yE e.1 e.2.1 e.2.2.1 e.2.2.2).bind λd=>k (d)) (cond (a.1==1) ((M.Bo a.2.1 a.2.2.1 a.2.2.2).bind λb=>k (b)) ((M.vU a.2.1 a.2.2.1 a.2.2.2).bind λf=>k (f)))
def M.D7 c c1 c2:=M.Tz c c1 c2 some
def C.D7:=fTa S.D7 (λx=>M.Tz x.2.1.1 x.2.1.2.1 x.2.1.2.2.1) [fe C.bM,fe C.vU,fe C.yE,fe C.Bo]
abbrev M.LM(code:au)(k:aC->Option R):=(M.JZ code).bind λa=>(M.D7 a.1 a.2.1 a.2.2).bind λb=>k b.1
def M.yO code:=M.LM code some
def C.yO:=fTa S.yO (λx=>M.LM x.1.1) [fe C.JZ,fe C.D7]
abbrev M.Ql(b:Int)(k:Bool->Option R):=cond (b==32) (k true) (k (b==9))
def M.D8 b:=M.Ql b some
def C.D8:=fTa S.D8 (λx=>M.Ql x.1.1)
abbrev M.Fq(n' low high:Int)(k:Bool->Option R):=cond (decide (n'>=low)) (k (decide (n'<=high))) (k false)
def M.dZ n' low high:=M.Fq n' low high some
def C.dZ:=fTa S.dZ (λx=>M.Fq x.1.1 x.1.2.1 x.1.2.2.1)
abbrev M.TA(s':aC)(at':Int)(k:Int->Option R):=(M.dZ at' 0 (i64.wrap ((↑s'.length:Int) - 1))).bind λa=>cond (!a) (k (-1)) ((idx s' at').bind λb=>k (i64.wrap (↑b.toNat:Int)))
def M.iZ s' at':=M.TA s' at' some
def C.iZ:=fTa S.iZ (λx=>M.TA x.1.1 x.1.2.1) [fe C.dZ]
def C.strings_IndexByte:S.strings_IndexByte.ok X0 λx=>M.strings_IndexByte x.1.1 x.1.2.1:=fA.ad5 (p:=Prim.strings_IndexByte)
abbrev M.Qm(b:Int)(k:Bool->Option R):=cond (decide (b>=48)) (k (decide (b<=57))) (k false)
def M.tV b:=M.Qm b some
def C.tV:=fTa S.tV (λx=>M.Qm x.1.1)
def M.FU(s':aC)(s:Int)(kn:Int->Option R)(ke:Int->Option R):Option R:=match s with
 |at'=>(M.iZ s' at').bind λa=>(M.tV a).bind λb=>bif b then(kn (i64.wrap (at'+1))) else ke at'
def M.UN s' s:=M.FU s' s (λs=>some (Sum.inl s)) λt=>some (Sum.inr t)
def M.JA s' s:=fV (M.UN s') s
def F.JA:LE X0 160:=le 1 (IC [dD 0 pS,dD 1 pI] []) (λx=>x.1.2.1) (λx s=>((x.1.1,s,()),())) (λx=> .leaf (Int) (λt=>(Ex.exit 0,⟨[(0,qU x.1.1),(1,iY t),(8,ou false)],[]⟩))) (λx=>M.FU x.1.1) [fe C.iZ,fe C.tV] [] (by rintro _ _ _ _ _<;>simp only[M.FU,nb]<;>rfl)
abbrev M.LP(s':aC)(at':Int)(k:Int->Option R):=(M.JA s' at').bind λa=>k a
def M.jB s' at':=M.LP s' at' some
def C.jB:=fTa S.jB (λx=>M.LP x.1.1 x.1.2.1) [] [F.JA]
abbrev M.Gw(s':aC)(acj:Int)(k:Int->Option R):=(M.iZ s' (i64.wrap (acj+1))).bind λd=>cond (d==43) ((M.jB s' (i64.wrap (i64.wrap (acj+1)+1))).bind λa=>cond (decide (a>i64.wrap (i64.wrap (acj+1)+1))) (k a) (k acj)) (cond (d==45) ((M.jB s' (i64.wrap (i64.wrap (acj+1)+1))).bind λb=>cond (decide (b>i64.wrap (i64.wrap (acj+1)+1))) (k b) (k acj)) ((M.jB s' (i64.wrap (acj+1))).bind λc=>cond (decide (c>i64.wrap (acj+1))) (k c) (k acj)))
def M.TB(s':aC)(at':Int)(k:Int->Option R):=(M.dZ at' 0 (i64.wrap ((↑s'.length:Int) - 1))).bind λf=>cond (!f) (k (-1)) ((M.jB s' at').bind λa=>(M.iZ s' a).bind λe=>cond (e==46) ((M.jB s' (i64.wrap (a+1))).bind λb=>cond (i64.wrap (i64.wrap (a - at')+i64.wrap (i64.wrap (b - a) - 1))==0) (k (-1)) ((M.iZ s' b).bind λc=>cond (c==101) (M.Gw s' b k) (cond (c==69) (M.Gw s' b k) (k b)))) (cond (i64.wrap (a - at')==0) (k (-1)) ((M.iZ s' a).bind λd=>cond (d==101) (M.Gw s' a k) (cond (d==69) (M.Gw s' a k) (k a)))))
def M.yP s' at':=M.TB s' at' some
def C.yP:S.yP.ok X0 λx=>M.yP x.1.1 x.1.2.1:=fnS (λx=>M.TB x.1.1 x.1.2.1) [fe C.dZ,fe C.jB,fe C.iZ] [] (by intros;unfold M.TB M.Gw;exact zbI)
def M.wV(s':aC)(quote s:Int)(kn:Int->Option R)(ke:(Int)⊕(Int)->Option R):Option R:=match s with
 |i=>bif decide (i<(↑s'.length:Int)) then((idx s' i).bind λd=>bif(↑d.toNat:Int) !=10 then((idx s' i).bind λb=>bif i64.wrap (↑b.toNat:Int)==quote then(ke (.inl (i64.wrap (i+1)))) else (idx s' i).bind λc=>bif(↑c.toNat:Int)==92 then((M.iZ s' (i64.wrap (i+1))).bind λa=>bif a !=10 then(kn (i64.wrap (i64.wrap (i+1)+1))) else kn (i64.wrap (i+1))) else kn (i64.wrap (i+1))) else ke (.inr i)) else ke (.inr i)
def M.zW s' quote s:=M.wV s' quote s (λs=>some (Sum.inl s)) λt=>some (Sum.inr t)
def M.wF s' quote s:=fV (M.zW s' quote) s
def F.wF:LE X0 161:=le 4 (IC [dD 0 pS,dD 2 pI,dD 7 pI] []) (λx=>x.1.2.2.1) (λx s=>((x.1.1,x.1.2.1,s,()),())) (λx=> .sum (.leaf (Int) (λt=>(Ex.ret,⟨[(6,iY t)],[]⟩))) (.leaf (Int) (λt=>(Ex.exit 0,⟨[(0,qU x.1.1),(2,iY x.1.2.1),(7,iY t),(24,ou false)],[]⟩)))) (λx=>M.wV x.1.1 x.1.2.1) [fe C.iZ] [] (by rintro _ _ _ _ _<;>simp only[M.wV,nb]<;>rfl)
abbrev M.LQ(s':aC)(at' quote:Int)(k:Int->Option R):=(M.iZ s' at').bind λc=>cond (c !=quote) (k (-1)) ((M.wF s' quote (i64.wrap (at'+1))).bind λa=>kD a (λb=>k b) λd=>letE d λe=>k (-1))
def M.sS s' at' quote:=M.LQ s' at' quote some
def C.sS:=fTa S.sS (λx=>M.LQ x.1.1 x.1.2.1 x.1.2.2.1) [fe C.iZ] [F.wF]
abbrev M.TD(s':aC)(at':Int)(k:Int->Option R):=(M.sS s' at' 34).bind λa=>k a
def M.Bq s' at':=M.TD s' at' some
def C.Bq:=fTa S.Bq (λx=>M.TD x.1.1 x.1.2.1) [fe C.sS]
abbrev M.CB(kind:Int)(k:Bool->Option R):=cond (kind==3) (k true) (cond (kind==4) (k true) (cond (kind==5) (k true) (cond (kind==6) (k true) (cond (kind==8) (k true) (cond (kind==33) (k true) (cond (kind==35) (k true) (cond (kind==51) (k true) (cond (kind==52) (k true) (k false)))))))))
def M.jl kind:=M.CB kind some
def C.jl:=fTa S.jl (λx=>M.CB x.1.1)
abbrev M.TF(s':aC)(at':Int)(k:Int->Option R):=(M.sS s' at' 47).bind λa=>cond (a==i64.wrap (at'+2)) (k (-1)) (k a)
def M.Bv s' at':=M.TF s' at' some
def C.Bv:=fTa S.Bv (λx=>M.TF x.1.1 x.1.2.1) [fe C.sS]
abbrev M.Oe(b:Int)(k:Bool->Option R):=cond (decide (b>=97)) (cond (decide (b<=122)) (k true) (cond (decide (b>=65)) (cond (decide (b<=90)) (k true) (k (b==95))) (k (b==95)))) (cond (decide (b>=65)) (cond (decide (b<=90)) (k true) (k (b==95))) (k (b==95)))
def M.mQ b:=M.Oe b some
def C.mQ:=fTa S.mQ (λx=>M.Oe x.1.1)
abbrev M.JB(b:Int)(k:Bool->Option R):=(M.mQ b).bind λc=>cond c (k true) ((M.tV b).bind λa=>k a)
def M.oN b:=M.JB b some
def C.oN:=fTa S.oN (λx=>M.JB x.1.1) [fe C.mQ,fe C.tV]
def M.Ew(s:(aC×Int×Bool)⊕(aC×Int))(kn:(aC×Int×Bool)⊕(aC×Int)->Option R)(ke:aC×Int->Option R):Option R:=match s with
 | .inl (s',at',v9)=>(M.iZ s' at').bind λa=>((M.oN a).bind λb=>bif b then(kn (.inr (s',i64.wrap (at'+1)))) else ke (s',at'))
 | .inr (s',at')=>(M.iZ s' at').bind λc=>(M.oN c).bind λd=>bif d then(kn (.inr (s',i64.wrap (at'+1)))) else ke (s',at')
def M.Qn s:=M.Ew s (λs=>some (Sum.inl s)) λt=>some (Sum.inr t)
def M.Og s:=fV (M.Qn) s
def F.Og:LE X0 120:=le 3 zbG (σ:=(aC×Int×Bool)⊕(aC×Int)) (λx=>(match x with| .inl x=> .inl ((x.1.1,x.1.2.1,x.1.2.2.1))| .inr x=> .inr ((x.1.1,x.1.2.1)))) (λx s=>(match s with| .inl s=> .inl (((s.1,s.2.1,s.2.2,()),()))| .inr s=> .inr (((s.1,s.2,()),())))) (λx=> .leaf (aC×Int) (λt=>(Ex.exit 0,⟨[(0,qU t.1),(1,iY t.2),(13,ou false)],[]⟩))) (λx=>M.Ew) [fe C.iZ,fe C.oN] [] (by rintro _ _ (⟨_,_,_⟩|⟨_,_⟩) _ _<;>unfold M.Ew<;>exact zbI) (hE:=by intro _ _ s _;rcases s with s|s<;>kernel_rfl)
abbrev M.Qo(s':aC)(at':Int)(k:Int->Option R):=(M.iZ s' at').bind λc=>(M.mQ c).bind λb=>cond (!b) (k (-1)) ((M.Og (.inl (s',at',false))).bind λa=>k a.2)
def M.Au s' at':=M.Qo s' at' some
def C.Au:=fTa S.Au (λx=>M.Qo x.1.1 x.1.2.1) [fe C.iZ,fe C.mQ] [F.Og]
def M.zX(s':aC)(v5 s:Int)(kn:Int->Option R)(ke:(Unit)⊕(Int)->Option R):Option R:=match s with
 |v6=>bif decide (v6<v5) then((idx s' v6).bind λa=>(M.oN (i64.wrap (↑a.toNat:Int))).bind λb=>bif !b then(ke (.inl ())) else kn (i64.wrap (v6+1))) else ke (.inr v6)
def M.FV s' v5 s:=M.zX s' v5 s (λs=>some (Sum.inl s)) λt=>some (Sum.inr t)
def M.JC s' v5 s:=fV (M.FV s' v5) s
def F.JC:LE X0 121:=le 2 (IC [dD 0 pS,dD 5 pI,dD 6 pI] []) (λx=>x.1.2.2.1) (λx s=>((x.1.1,x.1.2.1,s,()),())) (λx=> .sum (.leaf (Unit) (λt=>(Ex.ret,⟨[(2,ou false)],[]⟩))) (.leaf (Int) (λt=>(Ex.exit 0,⟨[(0,qU x.1.1),(5,iY x.1.2.1),(6,iY t),(7,ou false)],[]⟩)))) (λx=>M.zX x.1.1 x.1.2.1) [fe C.oN] [] (by rintro _ _ _ _ _<;>simp only[M.zX,nb]<;>rfl)
abbrev M.LU(s':aC)(k:Bool->Option R):=(M.JC s' ((↑s'.length:Int)) 0).bind λc=>kD c (λg=>k false) λb=>letE b λf=>(M.dZ ((↑s'.length:Int)) 1 12).bind λa=>cond a ((idx s' 0).bind λe=>(M.mQ (i64.wrap (↑e.toNat:Int))).bind λd=>k d) (k false)
def M.qx s':=M.LU s' some
def C.qx:=fTa S.qx (λx=>M.LU x.1.1) [fe C.dZ,fe C.mQ] [F.JC]
def M.Ey(s':au)(v:aC)(v7 s:Int)(kn:Int->Option R)(ke:(Int)⊕(Int)->Option R):Option R:=match s with
 |v8=>bif decide (v8<v7) then((idx s' v8).bind λb=>(cStr b 0).bind λa=>bif v==a then(ke (.inl v8)) else kn (i64.wrap (v8+1))) else ke (.inr v8)
def M.JD s' v v7 s:=M.Ey s' v v7 s (λs=>some (Sum.inl s)) λt=>some (Sum.inr t)
def M.Oh s' v v7 s:=fV (M.JD s' v v7) s
def F.Oh:LE X0 175:=le 2 (IC [dD 0 (pL false 1),dD 1 pS,dD 7 pI,dD 8 pI] []) (λx=>x.1.va.1) (λx s=>((x.1.1,x.1.2.1,x.1.2.2.1,s,()),())) (λx=> .sum (.leaf (Int) (λt=>(Ex.ret,⟨[(4,iY t)],[]⟩))) (.leaf (Int) (λt=>(Ex.exit 0,⟨[(0,ET 1 x.1.1),(1,qU x.1.2.1),(7,iY x.1.2.2.1),(8,iY t),(9,ou false)],[]⟩)))) (λx=>M.Ey x.1.1 x.1.2.1 x.1.2.2.1) [] [] (by rintro _ _ _ _ _<;>simp only[M.Ey,nb]<;>rfl)
abbrev M.Qp(s':au)(v:aC)(k:Int->Option R):=(M.Oh s' v ((↑s'.length:Int)) 0).bind λb=>kD b (λa=>k a) λc=>letE c λd=>k (-1)
def M.slices_Index s' v:=M.Qp s' v some
def C.slices_Index:=fTa S.slices_Index (λx=>M.Qp x.1.1 x.1.2.1) [] [F.Oh]
abbrev M.LV(s':aC)(k:Int->Option R):=(M.slices_Index (List.map (λx=>[x]) G7) s').bind λa=>cond (decide (a<0)) (k 0) (k (i64.wrap (10+a)))
def M.qy s':=M.LV s' some
def C.qy:=fTa S.qy (λx=>M.LV x.1.1) [fe C.slices_Index]
abbrev M.Ez(s':au)(v:aC)(k:Bool->Option R):=(M.slices_Index s' v).bind λa=>k (decide (a>=0))
def M.slices_Contains(s':au)(v:aC):Option (Bool):=M.Ez s' v some
def C.slices_Contains:=fTa S.slices_Contains (λx=>M.Ez x.1.1 x.1.2.1) [fe C.slices_Index]
abbrev M.LW(s':aC)(k:Bool->Option R):=(M.slices_Contains (List.map (λx=>[x]) OX) s').bind λa=>k a
def M.mJ s':=M.LW s' some
def C.mJ:=fTa S.mJ (λx=>M.LW x.1.1) [fe C.slices_Contains]
abbrev M.LX(s':aC)(at' end':Int)(k:Int×aC×Int->Option R):=(cut s' at' end').bind λa=>(M.qy a).bind λc=>cond (c !=0) ((M.qy a).bind λb=>k (b,a,at')) ((M.mJ a).bind λe=>cond e (k (8,a,at')) ((M.iZ s' end').bind λd=>cond (d==40) (k (7,a,at')) (k (6,a,at'))))
def M.vW s' at' end':=M.LX s' at' end' some
def C.vW:=fTa S.vW (λx=>M.LX x.1.1 x.1.2.1 x.1.2.2.1) [fe C.qy,fe C.mJ,fe C.iZ]
abbrev M.pR(s' afE:aC)(k:Bool->Option R):=cond (decide ((↑s'.length:Int)>=(↑afE.length:Int))) ((cut s' 0 (↑afE.length:Int)).bind λa=>k (a==afE)) (k false)
def M.jG s' afE:=M.pR s' afE some
def C.jG:=fTa S.jG (λx=>M.pR x.1.1 x.1.2.1)
abbrev M.FW(s' afE:aC)(k:Bool->Option R):=(M.jG s' afE).bind λa=>k a
def M.strings_HasPrefix s' afE:=M.FW s' afE some
def C.strings_HasPrefix:=fTa S.strings_HasPrefix (λx=>M.FW x.1.1 x.1.2.1) [fe C.jG]
def M.Qq(s':aC)(at':Int)(v16 az3 v162 az4 v164 az5 az6 v167 v168 az7 aqz aqA aqB aqC aqD aqE aqF aqG aqH aqI aqJ aqK aqL aqM aqN aqO aqP aqQ aqR aqS aqT aqU aqV aqW aqX aqY aqZ aq0 aq1:aC)(s:Int×Int×Int)(kn:Int×Int×Int->Option R)(ke:Int×Int×Int->Option R):Option R:=match s with
 |(kind,most,v17)=>bif decide (v17<39) then(bif decide (0<=v17) && decide (v17<39) then((cStr [D.str v16,D.str az3,D.str v162,D.str az4,D.str v164,D.str az5,D.str az6,D.str v167,D.str v168,D.str az7,D.str aqz,D.str aqA,D.str aqB,D.str aqC,D.str aqD,D.str aqE,D.str aqF,D.str aqG,D.str aqH,D.str aqI,D.str aqJ,D.str aqK,D.str aqL,D.str aqM,D.str aqN,D.str aqO,D.str aqP,D.str aqQ,D.str aqR,D.str aqS,D.str aqT,D.str aqU,D.str aqV,D.str aqW,D.str aqX,D.str aqY,D.str aqZ,D.str aq0,D.str aq1] v17.toNat).bind λa=>bif decide ((↑a.length:Int)>most) then((cut s' at' (↑s'.length:Int)).bind λc=>(M.strings_HasPrefix c a).bind λb=>bif b then(kn (i64.wrap (30+v17),(↑a.length:Int),i64.wrap (v17+1))) else kn (kind,most,i64.wrap (v17+1))) else kn (kind,most,i64.wrap (v17+1))) else none) else ke (kind,most,v17)
def M.aaw s' at' v16 az3 v162 az4 v164 az5 az6 v167 v168 az7 aqz aqA aqB aqC aqD aqE aqF aqG aqH aqI aqJ aqK aqL aqM aqN aqO aqP aqQ aqR aqS aqT aqU aqV aqW aqX aqY aqZ aq0 aq1 s:=M.Qq s' at' v16 az3 v162 az4 v164 az5 az6 v167 v168 az7 aqz aqA aqB aqC aqD aqE aqF aqG aqH aqI aqJ aqK aqL aqM aqN aqO aqP aqQ aqR aqS aqT aqU aqV aqW aqX aqY aqZ aq0 aq1 s (λs=>some (Sum.inl s)) λt=>some (Sum.inr t)
def M.Vk s' at' v16 az3 v162 az4 v164 az5 az6 v167 v168 az7 aqz aqA aqB aqC aqD aqE aqF aqG aqH aqI aqJ aqK aqL aqM aqN aqO aqP aqQ aqR aqS aqT aqU aqV aqW aqX aqY aqZ aq0 aq1 s:=fV (M.aaw s' at' v16 az3 v162 az4 v164 az5 az6 v167 v168 az7 aqz aqA aqB aqC aqD aqE aqF aqG aqH aqI aqJ aqK aqL aqM aqN aqO aqP aqQ aqR aqS aqT aqU aqV aqW aqX aqY aqZ aq0 aq1) s
def F.Vk:LE X0 123:=le 5 (IC [dD 0 pS,dD 1 pI,dD 6 pI,dD 7 pI,dD 16 (qm [pS,pS,pS,pS,pS,pS,pS,pS,pS,pS,pS,pS,pS,pS,pS,pS,pS,pS,pS,pS,pS,pS,pS,pS,pS,pS,pS,pS,pS,pS,pS,pS,pS,pS,pS,pS,pS,pS,pS]),dD 17 pI] []) (λx=>(x.1.2.2.1,x.1.va.1,x.1.va.2.2.1)) (λx s=>((x.1.1,x.1.2.1,s.1,s.2.1,(x.1.va.2.1.1,x.1.va.2.1.2.1,x.1.va.2.1.2.2.1,x.1.va.2.1.va.1,x.1.va.2.1.va.2.1,x.1.va.2.1.va.2.2.1,x.1.va.2.1.va.va.1,x.1.va.2.1.va.va.2.1,x.1.va.2.1.wc.1,x.1.va.2.1.wc.2.1,x.1.va.2.1.wc.2.2.1,x.1.va.2.1.wc.va.1,x.1.va.2.1.wc.va.2.1,x.1.va.2.1.wc.va.2.2.1,x.1.va.2.1.wc.va.va.1,x.1.va.2.1.wc.va.va.2.1,x.1.va.2.1.wc.wc.1,x.1.va.2.1.wc.wc.2.1,x.1.va.2.1.wc.wc.2.2.1,x.1.va.2.1.wc.wc.va.1,x.1.va.2.1.wc.wc.va.2.1,x.1.va.2.1.wc.wc.va.2.2.1,x.1.va.2.1.wc.wc.va.va.1,x.1.va.2.1.wc.wc.va.va.2.1,x.1.va.2.1.wc.wc.wc.1,x.1.va.2.1.wc.wc.wc.2.1,x.1.va.2.1.wc.wc.wc.2.2.1,x.1.va.2.1.wc.wc.wc.va.1,x.1.va.2.1.wc.wc.wc.va.2.1,x.1.va.2.1.wc.wc.wc.va.2.2.1,x.1.va.2.1.wc.wc.wc.va.va.1,x.1.va.2.1.wc.wc.wc.va.va.2.1,x.1.va.2.1.wc.wc.wc.wc.1,x.1.va.2.1.wc.wc.wc.wc.2.1,x.1.va.2.1.wc.wc.wc.wc.2.2.1,x.1.va.2.1.wc.wc.wc.wc.va.1,x.1.va.2.1.wc.wc.wc.wc.va.2.1,x.1.va.2.1.wc.wc.wc.wc.va.2.2.1,x.1.va.2.1.wc.wc.wc.wc.va.va.1,()),s.2.2,()),())) (λx=> .leaf (Int×Int×Int) (λt=>(Ex.exit 0,⟨[(0,qU x.1.1),(1,iY x.1.2.1),(6,iY t.1),(7,iY t.2.1),(16,V.agg [qU x.1.va.2.1.1,qU x.1.va.2.1.2.1,qU x.1.va.2.1.2.2.1,qU x.1.va.2.1.va.1,qU x.1.va.2.1.va.2.1,qU x.1.va.2.1.va.2.2.1,qU x.1.va.2.1.va.va.1,qU x.1.va.2.1.va.va.2.1,qU x.1.va.2.1.wc.1,qU x.1.va.2.1.wc.2.1,qU x.1.va.2.1.wc.2.2.1,qU x.1.va.2.1.wc.va.1,qU x.1.va.2.1.wc.va.2.1,qU x.1.va.2.1.wc.va.2.2.1,qU x.1.va.2.1.wc.va.va.1,qU x.1.va.2.1.wc.va.va.2.1,qU x.1.va.2.1.wc.wc.1,qU x.1.va.2.1.wc.wc.2.1,qU x.1.va.2.1.wc.wc.2.2.1,qU x.1.va.2.1.wc.wc.va.1,qU x.1.va.2.1.wc.wc.va.2.1,qU x.1.va.2.1.wc.wc.va.2.2.1,qU x.1.va.2.1.wc.wc.va.va.1,qU x.1.va.2.1.wc.wc.va.va.2.1,qU x.1.va.2.1.wc.wc.wc.1,qU x.1.va.2.1.wc.wc.wc.2.1,qU x.1.va.2.1.wc.wc.wc.2.2.1,qU x.1.va.2.1.wc.wc.wc.va.1,qU x.1.va.2.1.wc.wc.wc.va.2.1,qU x.1.va.2.1.wc.wc.wc.va.2.2.1,qU x.1.va.2.1.wc.wc.wc.va.va.1,qU x.1.va.2.1.wc.wc.wc.va.va.2.1,qU x.1.va.2.1.wc.wc.wc.wc.1,qU x.1.va.2.1.wc.wc.wc.wc.2.1,qU x.1.va.2.1.wc.wc.wc.wc.2.2.1,qU x.1.va.2.1.wc.wc.wc.wc.va.1,qU x.1.va.2.1.wc.wc.wc.wc.va.2.1,qU x.1.va.2.1.wc.wc.wc.wc.va.2.2.1,qU x.1.va.2.1.wc.wc.wc.wc.va.va.1]),(17,iY t.2.2),(18,ou false)],[]⟩))) (λx=>M.Qq x.1.1 x.1.2.1 x.1.va.2.1.1 x.1.va.2.1.2.1 x.1.va.2.1.2.2.1 x.1.va.2.1.va.1 x.1.va.2.1.va.2.1 x.1.va.2.1.va.2.2.1 x.1.va.2.1.va.va.1 x.1.va.2.1.va.va.2.1 x.1.va.2.1.wc.1 x.1.va.2.1.wc.2.1 x.1.va.2.1.wc.2.2.1 x.1.va.2.1.wc.va.1 x.1.va.2.1.wc.va.2.1 x.1.va.2.1.wc.va.2.2.1 x.1.va.2.1.wc.va.va.1 x.1.va.2.1.wc.va.va.2.1 x.1.va.2.1.wc.wc.1 x.1.va.2.1.wc.wc.2.1 x.1.va.2.1.wc.wc.2.2.1 x.1.va.2.1.wc.wc.va.1 x.1.va.2.1.wc.wc.va.2.1 x.1.va.2.1.wc.wc.va.2.2.1 x.1.va.2.1.wc.wc.va.va.1 x.1.va.2.1.wc.wc.va.va.2.1 x.1.va.2.1.wc.wc.wc.1 x.1.va.2.1.wc.wc.wc.2.1 x.1.va.2.1.wc.wc.wc.2.2.1 x.1.va.2.1.wc.wc.wc.va.1 x.1.va.2.1.wc.wc.wc.va.2.1 x.1.va.2.1.wc.wc.wc.va.2.2.1 x.1.va.2.1.wc.wc.wc.va.va.1 x.1.va.2.1.wc.wc.wc.va.va.2.1 x.1.va.2.1.wc.wc.wc.wc.1 x.1.va.2.1.wc.wc.wc.wc.2.1 x.1.va.2.1.wc.wc.wc.wc.2.2.1 x.1.va.2.1.wc.wc.wc.wc.va.1 x.1.va.2.1.wc.wc.wc.wc.va.2.1 x.1.va.2.1.wc.wc.wc.wc.va.2.2.1 x.1.va.2.1.wc.wc.wc.wc.va.va.1) [fe C.strings_HasPrefix] [] (by rintro _ _ ⟨_,_,_⟩ _ _<;>simp only[M.Qq,nb]<;>rfl)
abbrev M.WV(s':aC)(at':Int)(k:Int×Int->Option R):=(M.dZ at' 0 (i64.wrap ((↑s'.length:Int) - 1))).bind λb=>cond (!b) (k (0,0)) ((M.Vk s' at' [123] [125] [40] [41] [91] [93] [44] [59] [43,61] [45,61] [42,61] [47,61] [37,61] [94,61] [124,124] [38,38] [33,126] [61,61] [60,61] [62,61] [33,61] [43,43] [45,45] [62,62] [61] [43] [45] [42] [47] [37] [94] [33] [62] [60] [124] [63] [58] [126] [36] (0,0,0)).bind λa=>k (a.1,a.2.1))
def M.Ld s' at':=M.WV s' at' some
def C.Ld:=fTa S.Ld (λx=>M.WV x.1.1 x.1.2.1) [fe C.dZ] [F.Vk]
abbrev M.Oi(amg:UInt8)(s':aC)(at':Int)(k:Int×aC×Int->Option R):=(M.mQ (i64.wrap (↑amg.toNat:Int))).bind λe=>cond e ((M.Au s' at').bind λc=>(cut s' at' c).bind λf=>(M.qx f).bind λd=>cond d ((M.vW s' at' c).bind λb=>k (b)) (k (0,[],0))) ((M.Ld s' at').bind λa=>cond (a.1==0) (k (0,[],0)) (cond (decide (i64.wrap (at'+a.2)<0)) (k (0,[],0)) ((cut s' at' (i64.wrap (at'+a.2))).bind λg=>k (a.1,g,at'))))
def M.Qr(s':aC)(at' before:Int)(k:Int×aC×Int->Option R):=(idx s' at').bind λa=>cond (i64.wrap (↑a.toNat:Int)==10) (cond (decide (i64.wrap (at'+1)<0)) (k (0,[],0)) ((cut s' at' (i64.wrap (at'+1))).bind λp=>k (1,p,at'))) (cond (i64.wrap (↑a.toNat:Int)==35) ((cut s' at' (↑s'.length:Int)).bind λl=>(M.strings_IndexByte l 10).bind λb=>cond (decide (b>=0)) (cond (decide (i64.wrap (at'+b)<0)) (k (0,[],0)) ((cut s' at' (i64.wrap (at'+b))).bind λg=>k (2,g,at'))) ((cut s' at' (↑s'.length:Int)).bind λq=>k (2,q,at'))) ((M.tV (i64.wrap (↑a.toNat:Int))).bind λh=>cond h ((M.yP s' at').bind λe=>cond (decide (e<0)) (k (0,[],0)) ((cut s' at' e).bind λj=>k (3,j,at'))) (cond (i64.wrap (↑a.toNat:Int)==46) ((M.yP s' at').bind λd=>cond (decide (d<0)) (k (0,[],0)) ((cut s' at' d).bind λm=>k (3,m,at'))) (cond (i64.wrap (↑a.toNat:Int)==34) ((M.Bq s' at').bind λf=>cond (decide (f<0)) (k (0,[],0)) ((cut s' at' f).bind λi=>k (4,i,at'))) (cond (i64.wrap (↑a.toNat:Int)==47) ((M.jl before).bind λo=>cond (!o) ((M.Bv s' at').bind λc=>cond (decide (c<0)) (k (0,[],0)) ((cut s' at' c).bind λn=>k (5,n,at'))) (M.Oi a s' at' k)) (M.Oi a s' at' k))))))
def M.Aw s' at' before:=M.Qr s' at' before some
def C.Aw:S.Aw.ok X0 λx=>M.Aw x.1.1 x.1.2.1 x.1.2.2.1:=fnS (λx=>M.Qr x.1.1 x.1.2.1 x.1.2.2.1) [fe C.strings_IndexByte,fe C.tV,fe C.yP,fe C.Bq,fe C.jl,fe C.Bv,fe C.mQ,fe C.Au,fe C.qx,fe C.vW,fe C.Ld] [] (by intros;unfold M.Qr M.Oi;exact zbI)
abbrev M.CG(s':aC)(at' before:Int)(ke:(Int)⊕(Int×Int×au)->Option R)(qg:au)(kn:Int×Int×au->Option R):=(M.Aw s' at' before).bind λa=>cond (a.1==0) (ke (.inl at')) (cond (((qg.length+[[D.int .i64 a.1,D.str a.2.1,D.int .i64 a.2.2]].length) * 32).ble 140737488355328) (cond ((qg.length+[[D.int .i64 a.1,D.str a.2.1,D.int .i64 a.2.2]].length).ble 140737488355328) (kn (i64.wrap (at'+(↑a.2.1.length:Int)),a.1,qg++[[D.int .i64 a.1,D.str a.2.1,D.int .i64 a.2.2]])) none) none)
def M.EC(s':aC)(x' o7:Int)(s:Int×Int×au)(kn:Int×Int×au->Option R)(ke:(Int)⊕(Int×Int×au)->Option R):Option R:=match s with
 |(at',before,qg)=>bif decide (at'<(↑s'.length:Int)) then((idx s' at').bind λd=>(M.D8 (i64.wrap (↑d.toNat:Int))).bind λb=>bif b then(kn (i64.wrap (at'+1),before,qg)) else (idx s' at').bind λa=>bif(↑a.toNat:Int)==92 then((M.iZ s' (i64.wrap (at'+1))).bind λc=>bif c==10 then(kn (i64.wrap (at'+2),before,qg)) else M.CG s' at' before ke qg kn) else M.CG s' at' before ke qg kn) else ke (.inr (at',before,qg))
def M.JE s' x' o7 s:=M.EC s' x' o7 s (λs=>some (Sum.inl s)) λt=>some (Sum.inr t)
def M.qQ s' x' o7 s:=fV (M.JE s' x' o7) s
def F.qQ:LE X0 35:=le 2 (IC [dD 0 pS,dD 1 pI,dD 2 pI,dD 7 (pP 300000 0),dD 8 (pO 300001 0)] [dD 300000 (cB 27 [pI,pI]),dD 300001 (cA false true 0 3)]) (λx=>(x.1.2.1,x.1.2.2.1,x.2.2.1)) (λx s=>((x.1.1,s.1,s.2.1,(),(),()),((x.2.1.1,x.2.1.2.1,()),s.2.2,()))) (λx=> .sum (.leaf (Int) (λt=>(Ex.ret,⟨[(6,V.nil 3),(7,V.ptr 300000 0)],[(300000,Cell.box 27 [iY 2,iY t])]⟩))) (.leaf (Int×Int×au) (λt=>(Ex.exit 0,⟨[(0,qU x.1.1),(1,iY t.1),(2,iY t.2.1),(7,V.ptr 300000 0),(8,V.own 300001 0),(14,ou false)],[(300000,Cell.box 27 [iY x.2.1.1,iY x.2.1.2.1]),(300001,Cell.arr false true 0 3 t.2.2)]⟩)))) (λx=>M.EC x.1.1 x.2.1.1 x.2.1.2.1) [fe C.D8,fe C.iZ,fe C.Aw] [] (by rintro _ _ ⟨_,_,_⟩ _ _<;>simp only[M.EC,M.CG,nb]<;>rfl)
abbrev M.Qs(s':aC)(at' before:Int)(k:au×Int×Int->Option R):=(M.qQ s' 0 0 (at',before,[])).bind λd=>kD d (λc=>k ([],2,c)) λb=>letE b λa=>cond (aj a.2.2) (k (a.2.2,0,0)) none
def M.Hu s' at' before:=M.Qs s' at' before some
def C.Hu:=fTa S.Hu (λx=>M.Qs x.1.1 x.1.2.1 x.1.2.2.1) [] [F.qQ]
abbrev M.Y1(s':aC)(k:au×Int×Int->Option R):=cond (decide ((↑s'.length:Int)>3000)) (k ([],1,0)) ((M.Hu s' 0 0).bind λa=>cond (aj a.1) (k (a)) none)
def M.Ue s':=M.Y1 s' some
def C.Ue:=fTa S.Ue (λx=>M.Y1 x.1.1) [fe C.Hu]
def C.strings_Contains:S.strings_Contains.ok X0 λx=>M.strings_Contains x.1.1 x.1.2.1:=fA.ad5 (p:=Prim.strings_Contains)
abbrev M.TG(s':aC)(k:Bool->Option R):=(M.qx s').bind λc=>cond c ((M.qy s').bind λa=>cond (a==0) ((M.mJ s').bind λb=>k !b) (k false)) (k false)
def M.lI s':=M.TG s' some
def C.lI:=fTa S.lI (λx=>M.TG x.1.1) [fe C.qx,fe C.qy,fe C.mJ]
abbrev M.ED(kind:Int)(k:Bool->Option R):=(M.dZ kind 10 26).bind λa=>k a
def M.ug kind:=M.ED kind some
def C.ug:=fTa S.ug (λx=>M.ED x.1.1) [fe C.dZ]
abbrev M.JF(kind:Int)(k:Bool->Option R):=(M.dZ kind 30 68).bind λa=>k a
def M.zI kind:=M.JF kind some
def C.zI:=fTa S.zI (λx=>M.JF x.1.1) [fe C.dZ]
abbrev M.Qu(kind:Int)(k:aC->Option R):=cond (kind==1) (k [10]) ((M.ug kind).bind λc=>cond c (cond (decide (0<=i64.wrap (kind - 10)) && decide (i64.wrap (kind - 10)<17)) ((cStr G7 (0+(i64.wrap (kind - 10)).toNat * 1)).bind λa=>k a) none) ((M.zI kind).bind λb=>cond b (cond (decide (0<=i64.wrap (kind - 30)) && decide (i64.wrap (kind - 30)<39)) ((cStr VP (0+(i64.wrap (kind - 30)).toNat * 1)).bind λd=>k d) none) (k [])))
def M.D9 kind:=M.Qu kind some
def C.D9:=fTa S.D9 (λx=>M.Qu x.1.1) [fe C.ug,fe C.zI]
abbrev M.Qv(t':Int)(Iw:aC)(UM:Int)(k:Bool->Option R):=cond (Iw==[]) (k false) (cond (t'==2) ((idx Iw 0).bind λe=>cond ((↑e.toNat:Int)==35) ((M.strings_Contains Iw [10]).bind λd=>k !d) (k false)) (cond (t'==3) ((M.yP Iw 0).bind λh=>k (h==(↑Iw.length:Int))) (cond (t'==4) ((M.Bq Iw 0).bind λi=>k (i==(↑Iw.length:Int))) (cond (t'==5) ((M.Bv Iw 0).bind λa=>k (a==(↑Iw.length:Int))) (cond (t'==6) ((M.lI Iw).bind λb=>k b) (cond (t'==7) ((M.lI Iw).bind λg=>k g) (cond (t'==8) ((M.mJ Iw).bind λf=>k f) ((M.D9 t').bind λc=>k (Iw==c)))))))))
def M.qX t' Iw UM:=M.Qv t' Iw UM some
def C.qX:=fTa S.qX (λx=>M.Qv x.1.1.1 x.1.1.2.1 x.1.1.2.2.1) [fe C.strings_Contains,fe C.yP,fe C.Bq,fe C.Bv,fe C.lI,fe C.mJ,fe C.D9]
abbrev M.kE(Gx before:Int)(ke:(Unit)⊕(Int×Int)->Option R)(kn:Int×Int->Option R)(v12:Int):=cond (Gx==5) ((M.jl before).bind λc=>cond c (ke (.inl ())) (cond (Gx==58) ((M.jl before).bind λd=>cond (!d) (ke (.inl ())) (kn (Gx,i64.wrap (v12+1)))) (cond (Gx==41) ((M.jl before).bind λe=>cond (!e) (ke (.inl ())) (kn (Gx,i64.wrap (v12+1)))) (kn (Gx,i64.wrap (v12+1)))))) (cond (Gx==58) ((M.jl before).bind λb=>cond (!b) (ke (.inl ())) (kn (Gx,i64.wrap (v12+1)))) (cond (Gx==41) ((M.jl before).bind λa=>cond (!a) (ke (.inl ())) (kn (Gx,i64.wrap (v12+1)))) (kn (Gx,i64.wrap (v12+1)))))
def M.CJ(l v10:au)(v11:Int)(s:Int×Int)(kn:Int×Int->Option R)(ke:(Unit)⊕(Int×Int)->Option R):Option R:=match s with
 |(before,v12)=>bif decide (v12<v11) then((idx v10 v12).bind λc=>(jD .i64 c 0).bind λa=>(cStr c 1).bind λe=>(jD .i64 c 2).bind λd=>bif decide (i64.wrap (v12+1)<(↑l.length:Int)) then((idx l (i64.wrap (v12+1))).bind λg=>(jD .i64 g 0).bind λb=>(M.qX a e d).bind λh=>bif !h then(ke (.inl ())) else bif a==7 then(bif b !=32 then(ke (.inl ())) else bif a==2 then(bif b !=1 then(bif b !=0 then(ke (.inl ())) else M.kE a before ke kn v12) else M.kE a before ke kn v12) else M.kE a before ke kn v12) else bif a==2 then(bif b !=1 then(bif b !=0 then(ke (.inl ())) else M.kE a before ke kn v12) else M.kE a before ke kn v12) else M.kE a before ke kn v12) else (M.qX a e d).bind λf=>bif !f then(ke (.inl ())) else bif a==7 then(ke (.inl ())) else bif a==2 then(M.kE a before ke kn v12) else M.kE a before ke kn v12) else ke (.inr (before,v12))
def M.CO l v10 v11 s:=M.CJ l v10 v11 s (λs=>some (Sum.inl s)) λt=>some (Sum.inr t)
def M.LY l v10 v11 s:=fV (M.CO l v10 v11) s
def F.LY:LE X0 45:=le 5 (IC [dD 0 (pL false 3),dD 3 pI,dD 10 (pL false 3),dD 11 pI,dD 12 pI] []) (λx=>(x.1.2.1,x.1.va.2.1)) (λx s=>((x.1.1,s.1,x.1.2.2.1,x.1.va.1,s.2,()),())) (λx=> .sum (.leaf (Unit) (λt=>(Ex.ret,⟨[(2,ou false)],[]⟩))) (.leaf (Int×Int) (λt=>(Ex.exit 0,⟨[(0,ET 3 x.1.1),(3,iY t.1),(10,ET 3 x.1.2.2.1),(11,iY x.1.va.1),(12,iY t.2),(13,ou false)],[]⟩)))) (λx=>M.CJ x.1.1 x.1.2.2.1 x.1.va.1) [fe C.qX,fe C.jl] [] (by rintro _ _ ⟨_,_⟩ _ _<;>unfold M.CJ M.kE<;>exact zbI)
abbrev M.Oj(l:au)(k:Bool->Option R):=cond (decide ((↑l.length:Int)>3000)) (k false) ((M.LY l l ((↑l.length:Int)) (0,0)).bind λa=>kD a (λc=>k false) λb=>letE b λd=>k true)
def M.Bz l:=M.Oj l some
def C.Bz:=fTa S.Bz (λx=>M.Oj x.1.1) [] [F.LY]
abbrev M.Qw(kind:Int)(k:Bool->Option R):=cond (kind==32) (k true) (cond (kind==34) (k true) (k (kind==30)))
def M.zJ kind:=M.Qw kind some
def C.zJ:=fTa S.zJ (λx=>M.Qw x.1.1)
abbrev M.Qx(kind:Int)(k:Bool->Option R):=cond (kind==33) (k true) (cond (kind==35) (k true) (k (kind==31)))
def M.zK kind:=M.Qx kind some
def C.zK:=fTa S.zK (λx=>M.Qx x.1.1)
def M.Gy(v6:au)(v7:Int)(s:Int×Int)(kn:Int×Int->Option R)(ke:(Int)⊕(Int×Int)->Option R):Option R:=match s with
 |(open',v8)=>bif decide (v8<v7) then((idx v6 v8).bind λa=>(jD .i64 a 0).bind λb=>(cStr a 1).bind λe=>(jD .i64 a 2).bind λf=>(M.zJ b).bind λd=>bif d then(bif decide (i64.wrap (open'+1)>40) then(ke (.inl v8)) else kn (i64.wrap (open'+1),i64.wrap (v8+1))) else (M.zK b).bind λc=>bif c then(bif decide ((bif decide (i64.wrap (open' - 1)<0) then 0 else i64.wrap (open' - 1))>40) then(ke (.inl v8)) else kn (bif decide (i64.wrap (open' - 1)<0) then 0 else i64.wrap (open' - 1),i64.wrap (v8+1))) else bif decide (open'>40) then(ke (.inl v8)) else kn (open',i64.wrap (v8+1))) else ke (.inr (open',v8))
def M.Gz v6 v7 s:=M.Gy v6 v7 s (λs=>some (Sum.inl s)) λt=>some (Sum.inr t)
def M.Qy v6 v7 s:=fV (M.Gz v6 v7) s
def F.Qy:LE X0 46:=le 3 (IC [dD 3 pI,dD 6 (pL false 3),dD 7 pI,dD 8 pI] []) (λx=>(x.1.1,x.1.va.1)) (λx s=>((s.1,x.1.2.1,x.1.2.2.1,s.2,()),())) (λx=> .sum (.leaf (Int) (λt=>(Ex.ret,⟨[(2,iY t)],[]⟩))) (.leaf (Int×Int) (λt=>(Ex.exit 0,⟨[(3,iY t.1),(6,ET 3 x.1.2.1),(7,iY x.1.2.2.1),(8,iY t.2),(9,ou false)],[]⟩)))) (λx=>M.Gy x.1.2.1 x.1.2.2.1) [fe C.zJ,fe C.zK] [] (by rintro _ _ ⟨_,_⟩ _ _<;>simp only[M.Gy,nb]<;>rfl)
abbrev M.TI(l:au)(k:Int->Option R):=(M.Qy l ((↑l.length:Int)) (0,0)).bind λc=>kD c (λb=>k b) λa=>letE a λd=>k (-1)
def M.He l:=M.TI l some
def C.He:=fTa S.He (λx=>M.TI x.1.1) [] [F.Qy]
abbrev M.Qz(l:au)(i:Int)(k:Int->Option R):=cond (decide (i<(↑l.length:Int))) ((idx l i).bind λc=>(jD .i64 c 2).bind λf=>k f) (cond ((↑l.length:Int)==0) (k 0) ((idx l (i64.wrap ((↑l.length:Int) - 1))).bind λd=>(jD .i64 d 2).bind λb=>(idx l (i64.wrap ((↑l.length:Int) - 1))).bind λe=>(cStr e 1).bind λa=>k (i64.wrap (b+(↑a.length:Int)))))
def M.pJ l i:=M.Qz l i some
def C.pJ:=fTa S.pJ (λx=>M.Qz x.1.1 x.1.2.1)
abbrev M.GH(l:au)(k:Int×Int->Option R):=(M.Bz l).bind λc=>cond (!c) (k (2,0)) ((M.He l).bind λa=>cond (decide (a>=0)) ((M.pJ l a).bind λb=>k (4,b)) (k (0,0)))
def M.vX l:=M.GH l some
def C.vX:=fTa S.vX (λx=>M.GH x.1.1) [fe C.Bz,fe C.He,fe C.pJ]
abbrev M.Ic(c:au)(c1:Int)(c2:Bool)(c3:au)(k:Int×au×Int×Bool×au->Option R):=cond (decide (c1>=(↑c.length:Int))) (cond (aj c3) (k (0,c,c1,c2,c3)) none) ((idx c c1).bind λa=>(jD .i64 a 0).bind λb=>cond (aj c3) (k (b,c,c1,c2,c3)) none)
def M.aA c c1 c2 c3:=M.Ic c c1 c2 c3 some
def C.aA:=fTa S.aA (λx=>zbH M.Ic x.2.1)
def M.oH(s:zat⊕zat)(kn:zat⊕zat->Option R)(ke:zat⊕zat->Option R):Option R:=match s with
 | .inl (v,v1,v2,v3)=>bif !v2 then(bif aj v3 then((M.aA v v1 v2 v3).bind λb=>bif b.1==1 then(kn (.inr (b.2.1,i64.wrap (b.2.2.1+1),b.2.2.2.1,b.2.2.2.2))) else bif b.1==2 then((idx b.2.1 b.2.2.1).bind λd=>(cStr d 1).bind λc=>oV b.2.2.2.2 [[D.str c]] 16 λza=>kn (.inr (b.2.1,i64.wrap (b.2.2.1+1),b.2.2.2.1,za))) else ke (.inl (b.2.1,b.2.2.1,b.2.2.2.1,b.2.2.2.2))) else none) else(ke (.inr (v,v1,v2,v3)))
 | .inr (v,v1,v2,x')=>bif !v2 then(bif aj x' then((M.aA v v1 v2 x').bind λa=>bif a.1==1 then(kn (.inr (a.2.1,i64.wrap (a.2.2.1+1),a.2.2.2.1,a.2.2.2.2))) else bif a.1==2 then((idx a.2.1 a.2.2.1).bind λe=>(cStr e 1).bind λf=>oV a.2.2.2.2 [[D.str f]] 16 λza=>kn (.inr (a.2.1,i64.wrap (a.2.2.1+1),a.2.2.2.1,za))) else ke (.inl (a.2.1,a.2.2.1,a.2.2.2.1,a.2.2.2.2))) else none) else ke (.inr (v,v1,v2,x'))
def M.lY s:=M.oH s (λs=>some (Sum.inl s)) λt=>some (Sum.inr t)
def M.jR s:=fV (M.lY) s
def F.jR:LE X0 47:=le 1 zbo (σ:=zat⊕zat) (λx=>(match x with| .inl x=> .inl ((x.2.1.1,x.2.1.2.1,x.2.1.2.2.1,x.2.2.1))| .inr x=> .inr ((x.2.1.1,x.2.1.2.1,x.2.1.2.2.1,x.2.2.1)))) (λx s=>(match s with| .inl s=> .inl ((((),()),((s.1,s.2.1,s.2.2.1,(),()),s.va,())))| .inr s=> .inr ((((),()),((s.1,s.2.1,s.2.2.1,(),()),s.va,()))))) (λx=> .sum (.leaf zat (λt=>(Ex.ret,⟨[(0,V.ptr 100000 0),(11,ou false)],[(100000,zaY t 300000),(300000,Cell.arr false true 0 1 t.va)]⟩))) (.leaf zat (λt=>(Ex.exit 0,⟨[(0,V.ptr 100000 0),(6,ou false)],[(100000,zaY t 300000),(300000,Cell.arr false true 0 1 t.va)]⟩)))) (λx=>M.oH) [fe C.aA] [] (by rintro _ _ (⟨_,_,_,_⟩|⟨_,_,_,_⟩) _ _<;>unfold M.oH<;>exact zbI) (hE:=by intro _ _ s _;rcases s with s|s<;>kernel_rfl)
abbrev M.wG(c:au)(c1:Int)(c2:Bool)(c3:au)(k:au×Int×Bool×au->Option R):=(M.jR (.inl (c,c1,c2,c3))).bind λd=>kD d (λa=>cond (aj a.2.2.2) (k (a)) none) λe=>letE e λb=>cond (aj b.2.2.2) (k (b)) none
def M.aP c c1 c2 c3:=M.wG c c1 c2 c3 some
def C.aP:=fTa S.aP (λx=>zbH M.wG x.2.1) [] [F.jR]
def M.kJ(s:zat⊕zat)(kn:zat⊕zat->Option R)(ke:au×Int×Bool×au->Option R):Option R:=match s with
 | .inl (v,v1,v2,v3)=>bif aj v3 then((M.aP v v1 v2 v3).bind λa=>bif a.2.2.1 then(ke (a.1,a.2.1,a.2.2.1,a.2.2.2)) else bif aj a.2.2.2 then((M.aA a.1 a.2.1 a.2.2.1 a.2.2.2).bind λc=>bif c.1 !=37 then(ke (c.2.1,c.2.2.1,c.2.2.2.1,c.2.2.2.2)) else kn (.inr (c.2.1,i64.wrap (c.2.2.1+1),c.2.2.2.1,c.2.2.2.2))) else none) else none
 | .inr (v,v1,v2,x')=>bif aj x' then((M.aP v v1 v2 x').bind λb=>bif b.2.2.1 then(ke (b.1,b.2.1,b.2.2.1,b.2.2.2)) else bif aj b.2.2.2 then((M.aA b.1 b.2.1 b.2.2.1 b.2.2.2).bind λd=>bif d.1 !=37 then(ke (d.2.1,d.2.2.1,d.2.2.2.1,d.2.2.2.2)) else kn (.inr (d.2.1,i64.wrap (d.2.2.1+1),d.2.2.2.1,d.2.2.2.2))) else none) else none
def M.mZ s:=M.kJ s (λs=>some (Sum.inl s)) λt=>some (Sum.inr t)
def M.lZ s:=fV (M.mZ) s
def F.lZ:LE X0 21:=le 1 zbo (σ:=zat⊕zat) (λx=>(match x with| .inl x=> .inl ((x.2.1.1,x.2.1.2.1,x.2.1.2.2.1,x.2.2.1))| .inr x=> .inr ((x.2.1.1,x.2.1.2.1,x.2.1.2.2.1,x.2.2.1)))) (λx s=>(match s with| .inl s=> .inl ((((),()),((s.1,s.2.1,s.2.2.1,(),()),s.va,())))| .inr s=> .inr ((((),()),((s.1,s.2.1,s.2.2.1,(),()),s.va,()))))) (λx=> .leaf zat (λt=>(Ex.ret,⟨[(0,V.ptr 100000 0),(12,ou true)],[(100000,zaY t 300000),(300000,Cell.arr false true 0 1 t.va)]⟩))) (λx=>M.kJ) [fe C.aP,fe C.aA] [] (by rintro _ _ (⟨_,_,_,_⟩|⟨_,_,_,_⟩) _ _<;>unfold M.kJ<;>exact zbI) (hE:=by intro _ _ s _;rcases s with s|s<;>kernel_rfl)
abbrev M.sZ(c:au)(c1:Int)(c2:Bool)(c3:au)(k:au×Int×Bool×au->Option R):=(M.lZ (.inl (c,c1,c2,c3))).bind λa=>cond (aj a.2.2.2) (k (a)) none
def M.bQ c c1 c2 c3:=M.sZ c c1 c2 c3 some
def C.bQ:=fTa S.bQ (λx=>zbH M.sZ x.2.1) [] [F.lZ]
def M.rH(v11:Int)(v:au)(v1:Int)(v2:Bool)(o7:au)(s:Int×au)(kn:Int×au->Option R)(ke:Int×au->Option R):Option R:=match s with
 |(v12,x')=>bif decide (v12<v11) then((idx o7 v12).bind λc=>o7[v12.toNat]?.bind λb=>(cStr b 0).bind λa=>oV x' [[D.int .i64 34,D.int .i64 0,D.str a,D.str [],D.sl true 5 []]] 72 λd=>kn (i64.wrap (v12+1),d)) else ke (v12,x')
def M.xw v11 v v1 v2 o7 s:=M.rH v11 v v1 v2 o7 s (λs=>some (Sum.inl s)) λt=>some (Sum.inr t)
def M.zq v11 v v1 v2 o7 s:=fV (M.xw v11 v v1 v2 o7) s
def F.zq:LE X0 22:=le 3 (IC [dD 0 (pP 100000 0),dD 3 (pO 300000 0),dD 10 (pO 300001 0),dD 11 pI,dD 12 pI] [dD 100000 (cB 49 [pL false 3,pI,pB,pO 300001 0]),dD 300000 zbp,dD 300001 zbj]) (λx=>(x.1.va.2.1,x.2.2.1)) (λx s=>(((),(),(),x.1.va.1,s.1,()),((x.2.1.1,x.2.1.2.1,x.2.1.2.2.1,(),()),s.2,x.va.1,()))) (λx=> .leaf (Int×au) (λt=>(Ex.exit 0,⟨[(0,V.ptr 100000 0),(3,V.own 300000 0),(10,V.own 300001 0),(11,iY x.1.va.1),(12,iY t.1),(13,ou false)],[(100000,zaY x.2.1 300001),(300000,Cell.arr false false 0 5 t.2),(300001,Cell.arr false true 0 1 x.va.1)]⟩))) (λx=>M.rH x.1.va.1 x.2.1.1 x.2.1.2.1 x.2.1.2.2.1 x.va.1) [] [] (by rintro _ _ ⟨_,_⟩ _ _<;>unfold M.rH<;>exact zbI)
abbrev M.AA(c:au)(c1:Int)(c2:Bool)(c3:au)(k:Bool×au×au×Int×Bool×au->Option R):=(M.zq ((↑c3.length:Int)) c c1 c2 c3 (0,[])).bind λa=>k (true,a.2,c,c1,c2,[])
def M.dU c c1 c2 c3:=M.AA c c1 c2 c3 some
def C.dU:=fTa S.dU (λx=>zbH M.AA x.2.1) [] [F.zq]
abbrev M.uw(kind:Int)(c:au)(c1:Int)(c2:Bool)(c3:au)(k:Bool×au×Int×Bool×au->Option R):=cond c2 (cond (aj c3) (k (false,c,c1,true,c3)) none) (cond (aj c3) ((M.aA c c1 c2 c3).bind λa=>cond (a.1 !=kind) (cond (aj a.2.2.2.2) (k (false,a.2.1,a.2.2.1,true,a.2.2.2.2)) none) (cond (aj a.2.2.2.2) (k (true,a.2.1,i64.wrap (a.2.2.1+1),a.2.2.2)) none)) none)
def M.aO kind c c1 c2 c3:=M.uw kind c c1 c2 c3 some
def C.aO:=fTa S.aO (λx=>zbH (M.uw x.1.2.1) x.2.1) [fe C.aA]
def M.fO(v14:au)(v15:Int)(v:au)(v1:Int)(v2:Bool)(x':au)(s:Int×Int)(kn:Int×Int->Option R)(ke:(Int×Int)⊕(Unit)⊕(Int×Int)->Option R):Option R:=match s with
 |(open',v16)=>bif decide (v16<v15) then((idx v14 v16).bind λb=>(jD .i64 b 0).bind λa=>(cStr b 1).bind λf=>(jD .i64 b 2).bind λe=>(M.zJ a).bind λd=>bif d then(bif decide (i64.wrap (open'+1)<=0) then(ke (.inl (i64.wrap (open'+1),v16))) else kn (i64.wrap (open'+1),i64.wrap (v16+1))) else (M.zK a).bind λc=>bif c then(bif decide (i64.wrap (open' - 1)<=0) then(ke (.inl (i64.wrap (open' - 1),v16))) else kn (i64.wrap (open' - 1),i64.wrap (v16+1))) else bif a==36 then(bif open'==1 then(ke (.inr (.inl ()))) else bif decide (open'<=0) then(ke (.inl (open',v16))) else kn (open',i64.wrap (v16+1))) else bif decide (open'<=0) then(ke (.inl (open',v16))) else kn (open',i64.wrap (v16+1))) else ke (.inr (.inr (open',v16)))
def M.bZ v14 v15 v v1 v2 x' s:=M.fO v14 v15 v v1 v2 x' s (λs=>some (Sum.inl s)) λt=>some (Sum.inr t)
def M.oZ v14 v15 v v1 v2 x' s:=fV (M.bZ v14 v15 v v1 v2 x') s
def F.oZ:LE X0 210:=le 3 (IC [dD 3 pI,dD 14 (pL false 3),dD 15 pI,dD 16 pI] [dD 100000 (cB 49 [pL false 3,pI,pB,pO 300000 0]),dD 300000 zbj]) (λx=>(x.1.1,x.1.va.1)) (λx s=>((s.1,x.1.2.1,x.1.2.2.1,s.2,()),((x.2.1.1,x.2.1.2.1,x.2.1.2.2.1,(),()),x.2.2.1,()))) (λx=> .sum (.leaf (Int×Int) (λt=>(Ex.exit 0,⟨[(3,iY t.1),(14,ET 3 x.1.2.1),(15,iY x.1.2.2.1),(16,iY t.2),(41,ou true)],[(100000,zaY x.2.1 300000),(300000,Cell.arr false true 0 1 x.2.2.1)]⟩))) (.sum (.leaf (Unit) (λt=>(Ex.ret,⟨[(2,ou true)],[(100000,zaY x.2.1 300000),(300000,Cell.arr false true 0 1 x.2.2.1)]⟩))) (.leaf (Int×Int) (λt=>(Ex.exit 0,⟨[(3,iY t.1),(14,ET 3 x.1.2.1),(15,iY x.1.2.2.1),(16,iY t.2),(17,ou false)],[(100000,zaY x.2.1 300000),(300000,Cell.arr false true 0 1 x.2.2.1)]⟩))))) (λx=>M.fO x.1.2.1 x.1.2.2.1 x.2.1.1 x.2.1.2.1 x.2.1.2.2.1 x.2.2.1) [fe C.zJ,fe C.zK] [] (by rintro _ _ ⟨_,_⟩ _ _<;>unfold M.fO<;>exact zbI)
abbrev M.zu(c:au)(c1:Int)(c2:Bool)(c3:au)(k:Bool×au×Int×Bool×au->Option R):=(cut c c1 (↑c.length:Int)).bind λb=>(M.oZ b ((↑b.length:Int)) c c1 c2 c3 (0,0)).bind λe=>kD e (λf=>cond (aj c3) (k (false,c,c1,c2,c3)) none) λd=>kD d (λh=>cond (aj c3) (k (true,c,c1,c2,c3)) none) λa=>letE a λg=>cond (aj c3) (k (false,c,c1,c2,c3)) none
def M.nH c c1 c2 c3:=M.zu c c1 c2 c3 some
def C.nH:=fTa S.nH (λx=>zbH M.zu x.2.1) [] [F.oZ]
def M.AO(bJ:zaa)(x' o7:Bool)(s:au×Int×Bool×au×au)(kn:au×Int×Bool×au×au->Option R)(ke:zax⊕zaK⊕zax->Option R):Option R:=match s with
 |(v,v1,v2,qg,uX)=>bif !v2 then(bif aj uX then((bJ x' o7 v v1 v2 uX).bind λa=>oV qg [[D.int .i64 a.1,D.int .i64 a.2.1,D.str a.2.2.1,D.str a.2.2.2.1,D.sl false 5 (aB a.2.2.2.2.2.1)]] 72 λd=>bif a.2.2.2.2.2.2.2.2.2.1 then(ke (.inl (a.2.2.2.2.2.2.2.1,a.2.2.2.2.2.2.2.2.1,a.2.2.2.2.2.2.2.2.2.1,d,a.2.2.2.2.2.2.2.2.2.2))) else bif aj a.2.2.2.2.2.2.2.2.2.2 then((M.aA a.2.2.2.2.2.2.2.1 a.2.2.2.2.2.2.2.2.1 a.2.2.2.2.2.2.2.2.2.1 a.2.2.2.2.2.2.2.2.2.2).bind λb=>bif b.1 !=36 then(ke (.inl (b.2.1,b.2.2.1,b.2.2.2.1,d,b.2.2.2.2))) else bif(↑d.length:Int)==6 then(ke (.inr (.inl (b.2.1,b.2.2.1,d,b.2.2.2.2)))) else bif aj b.2.2.2.2 then((M.aP b.2.1 (i64.wrap (b.2.2.1+1)) b.2.2.2.1 b.2.2.2.2).bind λc=>kn (c.1,c.2.1,c.2.2.1,d,c.2.2.2)) else none) else none) else none) else ke (.inr (.inr (v,v1,v2,qg,uX)))
def M.Ie bJ x' o7 s:=M.AO bJ x' o7 s (λs=>some (Sum.inl s)) λt=>some (Sum.inr t)
def M.uM bJ x' o7 s:=fV (M.Ie bJ x' o7) s
def F.uM{bJ:zaa}(qE:S.bP.ok X0 λx=>bJ x.1.2.1.1 x.1.2.1.2.1 x.2.1.1 x.2.1.2.1 x.2.1.2.2.1 x.2.1.va.1):LE X0 185:=le 2 (IC [dD 0 (pP 100000 0),dD 3 (pP 300000 0),dD 5 (pO 300001 0)] [dD 100000 zbr,dD 300000 (cB 80 [pB,pB]),dD 300001 zbp,dD 300002 zbj]) (λx=>(x.2.1.1,x.2.1.2.1,x.2.1.2.2.1,x.va.1,x.va.2.1)) (λx s=>(((),(),(),()),((s.1,s.2.1,s.2.2.1,(),()),(x.2.2.1.1,x.2.2.1.2.1,()),s.va.1,s.va.2,()))) (λx=> .sum (.leaf zax (λt=>(Ex.exit 0,⟨[(0,V.ptr 100000 0),(3,V.ptr 300000 0),(5,V.own 300001 0),(27,ou true)],[(100000,zaY t 300002),(300000,Cell.box 80 [ou x.2.2.1.1,ou x.2.2.1.2.1]),(300001,Cell.arr false false 0 5 t.va.1),(300002,Cell.arr false true 0 1 t.va.2)]⟩))) (.sum (.leaf zaK (λt=>(Ex.exit 0,⟨[(5,V.own 300000 0)],[(100000,Cell.box 49 [ET 3 t.1,iY t.2.1,ou true,V.own 300001 0]),(300000,Cell.arr false false 0 5 t.2.2.1),(300001,Cell.arr false true 0 1 t.va)]⟩))) (.leaf zax (λt=>(Ex.exit 0,⟨[(0,V.ptr 100000 0),(3,V.ptr 300000 0),(5,V.own 300001 0),(11,ou false)],[(100000,zaY t 300002),(300000,Cell.box 80 [ou x.2.2.1.1,ou x.2.2.1.2.1]),(300001,Cell.arr false false 0 5 t.va.1),(300002,Cell.arr false true 0 1 t.va.2)]⟩))))) (λx=>M.AO bJ x.2.2.1.1 x.2.2.1.2.1) [fe qE,fe C.aA,fe C.aP] [] (by rintro _ _ ⟨_,_,_,_,_⟩ _ _<;>unfold M.AO<;>exact zbI)
def M.rO(bJ:zaa)(r' oU:Bool)(c:au)(c1:Int)(c2:Bool)(c3:au)(k:Bool×au×au×Int×Bool×au->Option R):=(M.uM bJ r' oU (c,c1,c2,[],c3)).bind λg=>kD g (λb=>cond (aj b.2.2.2.2) (k (true,b.2.2.2.1,b.1,b.2.1,b.2.2.1,b.2.2.2.2)) none) λe=>kD e (λd=>cond (aj d.2.2.2) (k (true,d.2.2.1,d.1,d.2.1,true,d.2.2.2)) none) λf=>letE f λa=>cond (aj a.2.2.2.2) (k (true,a.2.2.2.1,a.1,a.2.1,a.2.2.1,a.2.2.2.2)) none
def C.aax{bJ:zaa}(qE:S.bP.ok X0 λx=>bJ x.1.2.1.1 x.1.2.1.2.1 x.2.1.1 x.2.1.2.1 x.2.1.2.2.1 x.2.1.va.1):S.je.ok X0 λx=>M.rO bJ x.1.2.1.1 x.1.2.1.2.1 x.2.1.1 x.2.1.2.1 x.2.1.2.2.1 x.2.1.va.1 some:=fnS (λx=>zbH (M.rO bJ x.1.2.1.1 x.1.2.1.2.1) x.2.1) [] [F.uM qE] (by intros;unfold M.rO;exact zbI)
abbrev M.zY(WW:Int×au×Int×Bool×au)(nI:zao)(shut:Int)(k:Bool×au×au×Int×Bool×au->Option R):=cond (aj WW.2.2.2.2) ((nI false false WW.2.1 WW.2.2.1 WW.2.2.2.1 WW.2.2.2.2).bind λa=>cond (aj a.2.2.2.2.2) ((M.aO shut a.2.2.1 a.2.2.2.1 a.2.2.2.2.1 a.2.2.2.2.2).bind λb=>cond (aj b.2.2.2.2) (k (false,aB a.2.1,b.2)) none) none) none
def M.uy(nI:zao)(shut:Int)(c:au)(c1:Int)(c2:Bool)(c3:au)(k:Bool×au×au×Int×Bool×au->Option R):=cond (aj c3) ((M.aA c c1 c2 c3).bind λa=>cond (a.1==shut) (cond (shut==33) (cond (aj a.2.2.2.2) (k (true,[],a.2.1,i64.wrap (a.2.2.1+1),a.2.2.2)) none) (M.zY a nI shut k)) (M.zY a nI shut k)) none
def C.acn{nI:zao}(aco:S.je.ok X0 λx=>nI x.1.2.1.1 x.1.2.1.2.1 x.2.1.1 x.2.1.2.1 x.2.1.2.2.1 x.2.1.va.1):S.jm.ok X0 λx=>M.uy nI x.1.2.1 x.2.1.1 x.2.1.2.1 x.2.1.2.2.1 x.2.1.va.1 some:=fnS (λx=>zbH (M.uy nI x.1.2.1) x.2.1) [fe C.aA,fe aco,fe C.aO] [] (by intros;unfold M.uy M.zY;exact zbI)
abbrev M.Ig(c:au)(c1:Int)(c2:Bool)(c3:au)(k:Int×Int×aC×aC×Bool×au×Bool×au×Int×Bool×au->Option R):=cond (aj c3) (k (0,0,[],[],true,[],false,c,c1,true,c3)) none
def M.jH c c1 c2 c3:=M.Ig c c1 c2 c3 some
def C.jH:=fTa S.jH (λx=>zbH M.Ig x.2.1)
abbrev M.Ih(c:au)(c1:Int)(c2:Bool)(c3:au)(k:aC×au×Int×Bool×au->Option R):=(idx c c1).bind λa=>(cStr a 1).bind λb=>cond (aj c3) (k (b,c,i64.wrap (c1+1),c2,c3)) none
def M.fF c c1 c2 c3:=M.Ih c c1 c2 c3 some
def C.fF:=fTa S.fF (λx=>zbH M.Ih x.2.1)
abbrev M.jf(c:au)(c1:Int)(c2:Bool)(c3:au)(k:aC×au×Int×Bool×au->Option R):=cond c2 (cond (aj c3) (k ([],c,c1,true,c3)) none) (cond (aj c3) ((M.aA c c1 c2 c3).bind λa=>cond (a.1 !=6) (cond (aj a.2.2.2.2) (k ([],a.2.1,a.2.2.1,true,a.2.2.2.2)) none) (cond (aj a.2.2.2.2) ((M.fF a.2.1 a.2.2.1 a.2.2.2.1 a.2.2.2.2).bind λb=>cond (aj b.2.2.2.2) (k (b)) none) none)) none)
def M.bF c c1 c2 c3:=M.jf c c1 c2 c3 some
def C.bF:=fTa S.bF (λx=>zbH M.jf x.2.1) [fe C.aA,fe C.fF]
abbrev M.mX(kind:Int)(k:Bool->Option R):=cond (kind==51) (k true) (k (kind==52))
def M.iI kind:=M.mX kind some
def C.iI:=fTa S.iI (λx=>M.mX x.1.1)
end
end Go.Proofs.YtflhkdjglihbmaaGreatDoor
