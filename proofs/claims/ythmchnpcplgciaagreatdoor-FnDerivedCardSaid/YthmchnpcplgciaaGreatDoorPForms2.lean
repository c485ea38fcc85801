import Derived.RangeFuncBox
import Derived.RangeFuncLeaves
import Derived.RangeFuncNested
import Derived.Shelf.Abstract
import Derived.Shelf.RegionOpen
import Derived.WalkKit
import Derived.OwnWalkIn
import Derived.TacticsInMore
import Derived.LoopNIn
import Derived.LoopIn
import Derived.Test.YthmchnpcplgciaaGreatDoorProg
import Derived.Test.YthmchnpcplgciaaGreatDoorVm4
import Derived.Lib.Bytealg
set_option linter.defProp false
set_option linter.unusedVariables false
set_option linter.unusedSimpArgs false
open Go.IntKind (i64)
namespace Go.Proofs.YthmchnpcplgciaaGreatDoor
open Go Go.Proofs Go.RowKit Go.Shelf
attribute [local go_sem] Oper.semAt_some
def atN(zs:List Int)(j:Nat):Int×Int:=((j:Int),zs[j]?.getD 0)
def bk(zs:List Int)(k:Nat):List (Int×Int):=(List.range k).map λt=>atN zs (zs.length - 1 - t)
def azA(zs:List Int)(k:Nat):bk zs (k+1)=bk zs k++[atN zs (zs.length - 1 - k)]:=by simp[bk,List.range_succ]
def atO(zs:List Int)(k:Nat):(bk zs k).length=k:=by simp[bk]
def KpB(n₀ Bs:Nat)(W W':World):Prop:=Below n₀ W W'/\∀v,W.cell? ⟨Bs,0,none⟩=some v->W'.cell? ⟨Bs,0,none⟩=some v
def KpB.refl(n₀ Bs:Nat)(W:World):KpB n₀ Bs W W:=⟨Below.refl _ _,λ_ h=>h⟩
def KpB.trans{n₀ Bs:Nat}{A B C:World}(h:KpB n₀ Bs A B)(k:KpB n₀ Bs B C):KpB n₀ Bs A C:=⟨h.1.trans k.1,λv hv=>k.2 v (h.2 v hv)⟩
set_option maxRecDepth 100000 in
set_option maxHeartbeats 4000000 in
def av3(F:Fence)(n:Nat)(h7:F.fn 234)(hro:F.round=none)(hn:1<=n)(l Bs n₀ b off cap:Nat)(zs:List Int)(hreach:zs.length * 8<=140737488351232)(hb:b<n₀)(J Jx:List (Int×Int)->World->Prop)
  (hY:∀pre x W,J pre W->pre.length<zs.length->YieldAt F (n - 1) Tryz.prog l #[.int .i64 x.1,.int .i64 x.2] W λe W'=>(e=.returned (.bool true)/\J (pre++[x]) W'/\KpB n₀ Bs W W')\/(e=.returned (.bool false)/\Jx (pre++[x]) W'))
  (W:World) (hBs:W.cell? ⟨Bs,0,none⟩=some (.slice (some ⟨b,off,none⟩) zs.length cap)) (hc:∀j,j<zs.length->W.cell? ⟨b,off+j,none⟩=some (.int .i64 (zs[j]?.getD 0))) (h0:J [] W):
  CallsIn F n Tryz.prog 234 #[.func (.yield l) #[] #[],.pointer (some ⟨Bs,0,none⟩)] W λe W'=>(∃v,e=.returned v)/\
   ((∃ys,ys=bk zs zs.length/\J ys W')\/(∃pre,(∃k,k<=zs.length/\pre=bk zs k)/\Jx pre W')):=by
 refine callsIn_of_wp Tryz.func234 rfl h7 ?_ hro;simp only[Tryz.ntmps234,List.size_toArray,List.length_cons,List.length_nil,Nat.reduceAdd,Nat.reduceSub,Array.replicate_succ,Array.replicate_zero,List.push_toArray,List.append_toArray,List.nil_append,List.cons_append]
 gi_wp2
 gi_loopw [3] (λi wr=>∃m k:Nat,k+m=zs.length/\i=.int .i64 ((m:Int) - 1)/\J (bk zs k) wr/\KpB n₀ Bs W wr)
  (λi _=>(intOf i+1).toNat)
 case atStart=>exact⟨zs.length,0,by omega,rfl,h0,KpB.refl _ _ _⟩
 case round=>
  obtain⟨m,k,hk,rfl,hJs,hnx⟩:=hrel;have a2i:=hnx.2 _ hBs;cases m with
  |zero=>
   obtain rfl:k=zs.length:=by omega
   gi_wp2
   go_end0
   exact⟨⟨_,rfl⟩,.inl ⟨_,rfl,hJs⟩⟩
  |succ j=>
   have hj:j<zs.length:=by omega
   have e1:(((j+1:Nat):Int) - 1)=(j:Int):=by omega
   simp only[e1];have hcx:wr.cell? ⟨b,off+j,none⟩=some (.int .i64 (zs[j]?.getD 0)):=(hnx.1.cell (p:=⟨b,off+j,none⟩) hb).trans (hc j hj);obtain⟨fn,tmps,assign,body,hy,hR⟩:=hY _ (atN zs j) wr hJs (by rw[atO];omega);dsimp only[atN] at hy;have ek:bk zs k++[atN zs j]=bk zs (k+1):=by rw[azA];rw[show zs.length - 1 - k=j by omega]
   rw[ek] at hR;clear ek hY;generalize zs[j]?.getD 0=z at hy hcx
   gi_wp2
   refine hR.mono ?_;rintro e W3 (⟨rfl,hJ3,hk3⟩|⟨rfl,hJx3⟩)
   ·gi_wp2
    go_roundw
    case rel=>exact⟨j,k+1,by omega,rfl,hJ3,hnx.trans hk3⟩
    case measure=>simp[intOf]
   ·gi_wp2
    refine bodyPost_ret (results_none rfl _ _ _) rfl ?_;exact⟨⟨_,rfl⟩,.inr ⟨_,⟨k+1,by omega,rfl⟩,hJx3⟩⟩
set_option maxRecDepth 100000 in
set_option maxHeartbeats 1000000 in
def al3(F:Fence)(n:Nat)(h7:F.fn 234)(hro:F.round=none)(l Bs cap:Nat)(a:Option Addr)(J:List (Int×Int)->World->Prop)(W:World)(hBs:W.cell? ⟨Bs,0,none⟩=some (.slice a 0 cap))(h0:J [] W):
  CallsIn F n Tryz.prog 234 #[.func (.yield l) #[] #[],.pointer (some ⟨Bs,0,none⟩)] W λe W'=>(∃v,e=.returned v)/\J [] W':=by
 refine callsIn_of_wp Tryz.func234 rfl h7 ?_ hro;simp only[Tryz.ntmps234,List.size_toArray,List.length_cons,List.length_nil,Nat.reduceAdd,Nat.reduceSub,Array.replicate_succ,Array.replicate_zero,List.push_toArray,List.append_toArray,List.nil_append,List.cons_append]
 gi_wp2
 gi_loopw [3] (λi wr=>i=.int .i64 (-1)/\J [] wr) (λ_ _=>0)
 case atStart=>exact⟨rfl,h0⟩
 case round=>
  obtain⟨rfl,hJs⟩:=hrel
  gi_wp2
  go_end0
  exact⟨⟨_,rfl⟩,hJs⟩
set_option maxHeartbeats 1000000 in
def azB(F:Fence)(n:Nat)(h5:F.fn 224)(hro:F.round=none)(a:Option Addr)(len cap:Nat)(w:World):
  CallsIn F n Tryz.prog 224 #[.slice a len cap] w λe w'=>e=.returned (.func (.func 234) #[] #[.pointer (some ⟨w.heap.size,0,none⟩)])/\w'=w.alloc (.cells #[.slice a len cap] 75):=by
 refine callsIn_of_wp Tryz.func224 rfl h5 ?_ hro;simp only[Tryz.ntmps224,List.size_toArray,List.length_cons,List.length_nil,Nat.reduceAdd,Nat.reduceSub,Array.replicate_succ,Array.replicate_zero,List.push_toArray,List.append_toArray,List.nil_append,List.cons_append]
 gi_wp2
 go_ret
 exact⟨rfl,rfl⟩
def abf(n₀:Nat)(W:World)(sv:Value)(zs:List Int):Prop:=
 ∃a cap,sv=.slice a zs.length cap/\(zs≠[]->∃b off,a=some ⟨b,off,none⟩/\b<n₀/\∀j,j<zs.length->W.cell? ⟨b,off+j,none⟩=some (.int .i64 (zs[j]?.getD 0)))
def abf.below{n₀:Nat}{A B:World}(h:Below n₀ A B){sv:Value}{zs:List Int}(q:abf n₀ A sv zs):abf n₀ B sv zs:=by obtain⟨a,cap,e,q⟩:=q;refine⟨a,cap,e,λhz=> ?_⟩;obtain⟨b,off,e2,hb,hc⟩:=q hz;exact⟨b,off,e2,hb,λj hj=>(h.cell (p:=⟨b,off+j,none⟩) hb).trans (hc j hj)⟩
def aq2(F:Fence)(n:Nat)(h7:F.fn 234)(hro:F.round=none)(hn:1<=n)(Bs n₀:Nat)(sv:Value)(zs:List Int)(hreach:zs.length * 8<=140737488351232)(w:World)(hBs:Bs<w.heap.size)(hn₀:n₀<=w.heap.size)
  (hc:w.cell? ⟨Bs,0,none⟩=some sv) (hI:abf n₀ w sv zs):
  SeqStopsK F n Tryz.prog 234 #[.pointer (some ⟨Bs,0,none⟩)] (λx:Int×Int=>#[Value.int .i64 x.1,Value.int .i64 x.2]) (KpB n₀ Bs) (λys=>ys=bk zs zs.length)
   (λpre=>∃k,k<=zs.length/\pre=bk zs k) zs.length w:=λl J Jx W hW _ _ hY h0=>by
 have hc':=(hW.cell (p:=⟨Bs,0,none⟩) hBs).trans hc;obtain⟨a,cap,rfl,q⟩:=hI.below (hW.mono hn₀)
 by_cases hz:zs=[]
 ·subst hz;exact(al3 F n h7 hro l Bs cap a J W hc' h0).mono λe W' ⟨he,hj⟩=>⟨he,.inl ⟨_,rfl,hj⟩⟩
 ·obtain⟨b,off,rfl,hb,hcs⟩:=q hz;exact av3 F n h7 hro hn l Bs n₀ b off cap zs hreach hb J Jx hY W hc' hcs h0
def KpB.keeps{n₀ Bs:Nat}(W:World)(l:Nat)(o o':Obj)(hl:n₀<=l)(h:W.heap[l]? =some o)(h1:o.isCells=false)(h2:o.isWalk=false):KpB n₀ Bs W (W.putObj l o'):=by
 refine⟨(Below.refl n₀ W).trans ⟨rfl,rfl,rfl, ?_, ?_⟩, ?_⟩
 ·simp[World.putObj]
 ·intro k hk;exact World.putObj_heap_other (by omega)
 ·intro v hv
  by_cases hb:Bs=l
  ·subst hb;unfold World.cell? at hv;simp only[h] at hv;cases o<;>simp_all [Obj.isCells]
  ·rw[<-hv];exact World.cell?_of_block (World.putObj_heap_other hb)
end Go.Proofs.YthmchnpcplgciaaGreatDoor
namespace Go.Proofs.YthmchnpcplgciaaGreatDoor
open Go.Vm (gX jg uG)
open Go Go.Proofs Go.RowKit Go.Shelf
attribute [local go_sem] Oper.semAt_some
structure Nk where
 kind:Int
 op:Int
 text:ByteArray
 other:ByteArray
 kids:List Int
def av4(n₀:Nat)(W:World)(b o:Nat)(n:Nk):Prop:=
 ∃sv,W.cell? ⟨b,o,none⟩=some (.int .i64 n.kind)/\W.cell? ⟨b,o+1,none⟩=some (.int .i64 n.op)/\W.cell? ⟨b,o+2,none⟩=some (.string n.text)/\W.cell? ⟨b,o+3,none⟩=some (.string n.other)/\W.cell? ⟨b,o+4,none⟩=some sv/\abf n₀ W sv n.kids
def aso(n₀:Nat)(W:World)(sv:Value)(l:List Nk):Prop:=
 ∃a cap,sv=.slice a l.length cap/\(l≠[]->∃b off,a=some ⟨b,off,none⟩/\b<n₀/\∀i n,l[i]? =some n->av4 n₀ W b (off+i * 5) n)
def akC(F:Fence)(n:Nat)(h5:F.fn 50)(hro:F.round=none)(x lo hi:Int)(w:World):
  CallsIn F n Tryz.prog 50 #[.int .i64 x,.int .i64 lo,.int .i64 hi] w λe w'=>e=.returned (.bool (decide (lo<=x) && decide (x<=hi)))/\w'=w:=by
 refine callsIn_of_wp Tryz.func50 rfl h5 ?_ hro;simp only[Tryz.ntmps50,List.size_toArray,List.length_cons,List.length_nil,Nat.reduceAdd,Nat.reduceSub,Array.replicate_succ,Array.replicate_zero,List.push_toArray,List.append_toArray,List.nil_append,List.cons_append]
 gi_wp2
 all_goals go_ret
 all_goals refine⟨?_,rfl⟩
 ·rename_i h;rw[decide_eq_true h,Bool.true_and];rfl
 ·rename_i h;rw[decide_eq_false (by omega),Bool.false_and];rfl
def aci(st:List Int):Prop:=∀(j:Nat) x,st[j]? =some x->0<=x/\x<=j
def Wn{st:List Int}(h:aci st)(j:Nat):0<=st[j]?.getD 0/\st[j]?.getD 0<=j:=by
 cases hj:st[j]? with
 |none=>simp
 |some x=>exact h j x hj
def MS{st:List Int}(h:aci st):∀(ks:List Int) (a r:Int), -1<=a->a<st.length->gX st ks a=some r-> -1<=r/\r<st.length
 |[],a,r,h1,h2,e=>by rw[gX] at e;cases e;exact⟨h1,h2⟩
 |k::ks,a,r,h1,h2,e=>by
  rw[gX] at e;split at e
  ·cases e
  ·rename_i hc;have hk:=Wn h k.toNat;exact MS h ks _ r (by omega) (by omega) e
def YF(st:List Int)(k:List Int):∀(ks:List Int) (a:Int),gX st (ks++k) a=(gX st ks a).bind λr=>gX st k r
 |[],a=>rfl
 |x::ks,a=>by
  rw[List.cons_append,gX,gX];split
  ·rfl
  ·exact YF st k ks _
def Vq:∀(l l':List (List Int)) (st:List Int),jg st (l++l')=(jg st l).bind λs=>jg s l'
 |[],l',st=>rfl
 |n::l,l',st=>by
  rw[List.cons_append,jg,jg];cases gX st n.reverse ((st.length:Int) - 1) with
  |none=>rfl
  |some a=>exact Vq l l' _
def abg:∀(l:List (List Int)) (st r:List Int),jg st l=some r->r.length=st.length+l.length
 |[],st,r,h=>by rw[jg] at h;cases h;rfl
 |n::l,st,r,h=>by
  rw[jg] at h;split at h
  ·cases h
  ·have:=abg l _ r h;simp at this|-;omega
def ZN{st:List Int}(h:aci st){a:Int}(h1: -1<=a)(h2:a<st.length):aci (st++[a+1]):=by
 intro j x hj;rw[List.getElem?_append] at hj;split at hj
 ·exact h j x hj
 ·rename_i hn;have:j - st.length=0:=by
   cases hd:j - st.length with
   |zero=>rfl
   |succ d=>rw[hd] at hj;simp at hj
  rw[this] at hj;simp at hj;omega
def adF:∀(l:List (List Int)) (st r:List Int),aci st->jg st l=some r->aci r
 |[],st,r,h0,h=>by rw[jg] at h;cases h;exact h0
 |n::l,st,r,h0,h=>by
  rw[jg] at h;split at h
  ·cases h
  ·rename_i a ha;have:=MS h0 _ _ _ (by omega) (by omega) ha;exact adF l _ r (ZN h0 this.1 this.2) h
def YG:aci []:=λj x h=>by simp at h
def Vr(W:World)(a:Addr)(u:Value):W.grownBy (W.setCell a u) (some a.block):=
 ⟨rfl,rfl,rfl,by simp[World.setCell],λk _ hk=>Below.heap_setCell _ _ _ k (λe=>hk (by rw[e]))⟩
def Px(len:Nat)(st:List Int):Array Value:=(st.map (Value.int .i64)++List.replicate (len - st.length) (Value.int .i64 0)).toArray
def abh{len:Nat}{st:List Int}(h:st.length<=len):(Px len st).size=len:=by simp[Px];omega
def adG{len:Nat}{st:List Int}{j:Nat}(h:j<len):(Px len st)[j]? =some (.int .i64 (st[j]?.getD 0)):=by
 simp only[Px,List.getElem?_toArray];rw[List.getElem?_append];split
 ·rename_i hj;simp at hj;simp[hj]
 ·rename_i hj;simp at hj;rw[List.getElem?_replicate,if_pos (by simp;omega),List.getElem?_eq_none (by omega)];rfl
def atP{len:Nat}{st:List Int}(h:st.length<len)(x:Int):(Px len st).setIfInBounds st.length (.int .i64 x)=Px len (st++[x]):=by
 apply Array.ext
 ·simp[Px];omega
 ·intro j h1 h2;apply Option.some.inj;rw[<-Array.getElem?_eq_getElem,<-Array.getElem?_eq_getElem];have hj:j<len:=by rw[Array.size_setIfInBounds,abh (by omega)] at h1;exact h1
  rw[adG hj,Array.getElem?_setIfInBounds];split
  ·rename_i e;subst e;rw[if_pos (by rw[abh (by omega)];exact h)];simp
  ·rename_i e;rw[adG hj,List.getElem?_append];split
   ·rfl
   ·rw[List.getElem?_eq_none (by omega),List.getElem?_eq_none (by simp;omega)]
structure FH(w:World)(len:Nat)(st:List Int)(W:World):Prop where
 b0:Boxed W w.heap.size 75 (.slice none 0 0)
 b1:Boxed W (w.heap.size+1) 4 (.bool false)
 b2:W.heap[w.heap.size+2]? =some (.cells (Px len st) 3 (0,0))
 b3:Boxed W (w.heap.size+3) 75 (.slice (some ⟨w.heap.size+2,0,none⟩) len len)
 bel:Below w.heap.size w W
def FH.grown{w:World}{len:Nat}{st:List Int}{A B:World}(h:FH w len st A){row:Option Nat}(hg:A.grownBy B row)(hr:∀r,row=some r->w.heap.size+3<r):FH w len st B:=by
 have ne:∀k,k<=w.heap.size+3->some k≠row:=λk hk e=>by have:=hr k e.symm;omega
 refine⟨h.b0.kept hg (ne _ (by omega)),h.b1.kept hg (ne _ (by omega)), ?_,h.b3.kept hg (ne _ (by omega)),h.bel.grown hg h.bel.size λk e=>by have:=hr k e;omega⟩;rw[hg.block _ (Array.getElem?_eq_some_iff.1 h.b2).1 (ne _ (by omega))];exact h.b2
def FH.alloc{w:World}{len:Nat}{st:List Int}{A:World}(h:FH w len st A)(o:Obj):FH w len st (A.alloc o):=h.grown (World.grownBy_alloc A o none) (λr e=>by cases e)
def FH.size{w:World}{len:Nat}{st:List Int}{A:World}(h:FH w len st A):w.heap.size+3<A.heap.size:=h.b3.lt
def FH.set{w:World}{len:Nat}{st:List Int}{A:World}(h:FH w len st A){b:Nat}(hb:w.heap.size+3<b)(u:Value):FH w len st (A.setCell ⟨b,0,none⟩ u):=h.grown (Vr A _ u) (λr e=>by cases e;exact hb)
def FH.fail{w:World}{len:Nat}{st:List Int}{A:World}(h:FH w len st A):FH w len st ((A.setCell ⟨w.heap.size,0,none⟩ (.slice none 0 0)).setCell ⟨w.heap.size+1,0,none⟩ (.bool false)):=by refine⟨(h.b0.set _).other (by omega) _,(h.b1.other (by omega) _).set _, ?_,(h.b3.other (by omega) _).other (by omega) _,(h.bel.setCell (p:=⟨w.heap.size,0,none⟩) (Nat.le_refl _) _).setCell (p:=⟨w.heap.size+1,0,none⟩) (Nat.le_succ _) _⟩;rw[Below.heap_setCell _ _ _ _ (by simp),Below.heap_setCell _ _ _ _ (by simp)];exact h.b2
def FH.push{w:World}{len:Nat}{st:List Int}{A:World}(h:FH w len st A)(hl:st.length<len)(x:Int):FH w len (st++[x]) (A.setCell ⟨w.heap.size+2,st.length,none⟩ (.int .i64 x)):=by
 have hg:=Vr A ⟨w.heap.size+2,st.length,none⟩ (.int .i64 x);have ne:∀k,k≠w.heap.size+2->some k≠some (w.heap.size+2):=λk hk e=>hk (Option.some.inj e)
 refine⟨h.b0.kept hg (ne _ (by omega)),h.b1.kept hg (ne _ (by omega)), ?_,h.b3.kept hg (ne _ (by omega)),h.bel.setCell (p:=⟨w.heap.size+2,st.length,none⟩) (Nat.le_add_right _ _) _⟩;obtain⟨hlt,hk⟩:=Array.getElem?_eq_some_iff.1 h.b2;show(A.heap.modify (w.heap.size+2) _)[w.heap.size+2]? =_;rw[Array.getElem?_eq_getElem (by rw[Array.size_modify];exact hlt),Array.getElem_modify_self,hk];show some (Obj.cells (if(none:Option _).isSome then _ else _) _ _)=_;rw[if_neg (by simp),atP hl]
def FH.elem{w:World}{len:Nat}{st:List Int}{A:World}(h:FH w len st A){j:Nat}(hj:j<len):A.cell? ⟨w.heap.size+2,j,none⟩=some (.int .i64 (st[j]?.getD 0)):=by simp only[World.cell?,h.b2];simp[adG hj]
def FH.av5{w:World}{len:Nat}{st:List Int}{A:World}(h:FH w len st A)(j:Nat):A.frozen? ⟨w.heap.size+2,j,none⟩=false:=by simp[World.frozen?,h.b2]
structure Marks(n:Nat)(ms:List Nat)(W:World):Prop where
 nd:ms.Nodup
 at_:∀D,D∈ms->n+3<D/\W.heap[D]? =some (.deferred (some []))
def Marks.grown{n:Nat}{ms:List Nat}{A B:World}(h:Marks n ms A){row:Option Nat}(hg:A.grownBy B row)(hr:∀r,row=some r->r ∉ ms):Marks n ms B:=by refine⟨h.nd,λD hD=>⟨(h.at_ D hD).1, ?_⟩⟩;rw[hg.block D (Array.getElem?_eq_some_iff.1 (h.at_ D hD).2).1 (λe=>hr D e.symm hD)];exact(h.at_ D hD).2
def Marks.lt{n:Nat}{ms:List Nat}{A:World}(h:Marks n ms A):∀D,D∈ms->D<A.heap.size:=λD hD=>(Array.getElem?_eq_some_iff.1 (h.at_ D hD).2).1
def Marks.alloc{n:Nat}{ms:List Nat}{A:World}(h:Marks n ms A)(o:Obj):Marks n ms (A.alloc o):=h.grown (World.grownBy_alloc A o none) (λr e=>by cases e)
def Marks.set{n:Nat}{ms:List Nat}{A:World}(h:Marks n ms A)(a:Addr)(u:Value){c:Array Value}{t:TypeId}{f:Nat×Nat}(ha:A.heap[a.block]? =some (.cells c t f)):Marks n ms (A.setCell a u):=
 h.grown (Vr A a u) (λr e hr=>by cases e;have:=(h.at_ _ hr).2;rw[ha] at this;cases this)
def av6(D:Nat):Deferred:={target:=.collected D,args:=#[]}
set_option maxRecDepth 100000 in
def azC(n:Nat)(hn:n<=400)(w:World):(Instr.makeSlice 75 (.int .i64 (n:Int)) (.int .i64 (n:Int))).run Tryz.prog w=.ok (.slice (some ⟨w.heap.size,0,none⟩) n n) (w.alloc (.cells (Px n []) 3)):=by
 obtain⟨i0,hi,hz0,hz1,hz2⟩:=info_parts (P:=Tryz.prog) (e:=3) (z:=.int .i64 0) (size:=1) (bytes:=8) (by kernel_rfl);rw[run_makeSlice w 75 3 i0 _ Tryz.underlying75 hi hz0 .i64 .i64 n n (by omega) (by omega) (by rw[hz1];simp;omega) (by rw[hz2];omega) (by omega)];simp only[Int.toNat_natCast];rw[hz1];congr 3;apply Array.ext
 ·simp[size_madeCells,Px]
 ·intro j h1 h2;simp[madeCells,Px,Value.cells,Nat.mod_one]
def Xh{F:Fence}{n:Nat}{P:Program}{fn:Func}{tmps:Array Value}{R:Ending->World->Prop}{b:Nat}(K:World->Prop)(hK:∀W D,K W->b+3<D->K (W.putObj D (.deferred none)))
  (he:∀W,K W->LeavesIn F n P fn tmps R [] .returning W):∀(ms:List Nat) (W:World),K W->Marks b ms W->LeavesInM F n P fn tmps R (ms.map av6) .returning W
 |[],W,k,_=>he W k
 |D::ms,W,k,h=>by
  obtain⟨h1,h2⟩:=h.at_ D List.mem_cons_self;refine⟨by simp,.inl ⟨D,_,rfl,run_takeDeferred h2, ?_⟩⟩;refine Xh K hK he ms _ (hK W D k h1) ?_;have nd:=List.nodup_cons.1 h.nd;have h':Marks b ms W:=⟨nd.2,λd hd=>h.at_ d (List.mem_cons_of_mem _ hd)⟩
  exact h'.grown (grownBy_putObj' W D _) (λr e=>by cases e;exact nd.1)
end Go.Proofs.YthmchnpcplgciaaGreatDoor
namespace Go.Proofs.YthmchnpcplgciaaGreatDoor
open Go.Vm (gX jg uG)
open Go Go.Proofs Go.RowKit Go.Shelf
attribute [local go_sem] Oper.semAt_some
def adH(st:List Int)(pre:List Int)(a r k:Int)(h:gX st pre a=some r):gX st (pre++[k]) a=if r<0\/k≠r then none else some ((st[k.toNat]?.getD 0) - 1):=by rw[YF,h];rfl
def Marks.fail{w:World}{len:Nat}{st:List Int}{ms:List Nat}{A:World}(hB:FH w len st A)(h:Marks w.heap.size ms A):Marks w.heap.size ms ((A.setCell ⟨w.heap.size,0,none⟩ (.slice none 0 0)).setCell ⟨w.heap.size+1,0,none⟩ (.bool false)):=
 (h.set ⟨w.heap.size,0,none⟩ _ hB.b0).set ⟨w.heap.size+1,0,none⟩ _ (hB.b1.other (by omega) _)
def av7(zs:List Int):(bk zs zs.length).map (λx:Int×Int=>x.2)=zs.reverse:=by
 apply List.ext_getElem
 ·simp[bk]
 ·intro i h1 h2;have hi:i<zs.length:=by simpa[bk] using h1
  simp[bk,atN];rw[List.getElem?_eq_getElem (by omega)];rfl
def atQ(zs:List Int){k:Nat}(hk:k<=zs.length):∃r,bk zs zs.length=bk zs k++r:=by
 refine⟨(bk zs zs.length).drop k, ?_⟩;have h:bk zs k=(bk zs zs.length).take k:=by unfold bk;rw[<-List.map_take,List.take_range,Nat.min_eq_left hk]
 rw[h,List.take_append_drop]
def atS{st zs:List Int}{k:Nat}{a:Int}(hk:k<=zs.length)(h:gX st ((bk zs k).map (λx:Int×Int=>x.2)) a=none):gX st zs.reverse a=none:=by obtain⟨r,hr⟩:=atQ zs hk;rw[<-av7,hr,List.map_append,YF,h];rfl
def anQ{l:List Nk}{i:Nat}{nd:Nk}{st:List Int}(hnd:l[i]? =some nd)(hs:jg [] ((l.take i).map (·.kids))=some st)(h:gX st nd.kids.reverse ((st.length:Int) - 1)=none):jg [] (l.map (·.kids))=none:=by
 have hd:l.drop i=nd::l.drop (i+1):=by obtain⟨h1,h2⟩:=List.getElem?_eq_some_iff.1 hnd;rw[List.drop_eq_getElem_cons h1,h2]
 have e:l.map (·.kids)=(l.take i).map (·.kids)++(nd.kids::(l.drop (i+1)).map (·.kids)):=by rw[<-List.map_cons,<-hd,<-List.map_append,List.take_append_drop]
 rw[e,Vq,hs];show jg st (nd.kids::_)=none;rw[jg,h]
def aq3(w:World)(l:List Nk)(e:Ending)(w':World):Prop:=
 Below w.heap.size w w'/\∃g bb,e=.returned (.tuple #[g,.bool bb])/\
  ((uG (l.map (·.kids))=none/\g=.slice none 0 0/\bb=false)\/
   ∃st,uG (l.map (·.kids))=some st/\g=.slice (some ⟨w.heap.size+2,0,none⟩) l.length l.length/\w'.heap[w.heap.size+2]? =some (.cells (Px l.length st) 3 (0,0))/\bb=(st[l.length - 1]?.getD 0==0))
def av8{tmps:Array Value}{w W:World}{g:Value}{bb:Bool}(h2:tmps.getD 2 undef=.pointer (some ⟨w.heap.size,0,none⟩))(h3:tmps.getD 3 undef=.pointer (some ⟨w.heap.size+1,0,none⟩))
  (b0:Boxed W w.heap.size 75 g) (b1:Boxed W (w.heap.size+1) 4 (.bool bb)) (hg:∃a n c,g=.slice a n c):(results Tryz.f202 tmps).run Tryz.prog W=.ok (.tuple #[g,.bool bb]) W:=by
 obtain⟨a,n,c,rfl⟩:=hg;have c0:=b0.cell;have c1:=b1.cell;refine Vm.aeZ (P:=Tryz.prog) (w:=W) (fn:=Tryz.f202) (tmps:=tmps) (gs:=[.slice a n c,.bool bb]) ?_ rfl;intro i x hx;have hr:Tryz.f202.results.toList=[.cell 2 75,.cell 3 4]:=rfl;rw[hr] at hx
 match i,hx with
 |0,hx=>cases hx;refine⟨_,rfl, ?_⟩;simp only[Vm.alM,h2];simp[go_sem,c0]
 |1,hx=>cases hx;refine⟨_,rfl, ?_⟩;simp only[Vm.alM,h3];simp[go_sem,c1]
 |i+2,hx=>simp at hx
set_option maxRecDepth 100000 in
set_option maxHeartbeats 4000000 in
def atT(w:World)(a:Option Addr)(cap:Nat)(l:List Nk)(hl:l.length<=140737488351232)(hkl:∀n,n∈l->n.kids.length * 8<=140737488351232)(hN:aso w.heap.size w (.slice a l.length cap) l):
  CallsIn Fence.wide 9 Tryz.prog 202 #[.slice a l.length cap] w λe w'=>aq3 w l e w':=by
 refine callsIn_of_wp_marks Tryz.func202 rfl trivial ?_ rfl;simp only[Tryz.ntmps202,List.size_toArray,List.length_cons,List.length_nil,Nat.reduceAdd,Nat.reduceSub,Array.replicate_succ,Array.replicate_zero,List.push_toArray,List.append_toArray,List.nil_append,List.cons_append]
 by_cases hb:(decide (1<=(l.length:Int)) && decide ((l.length:Int)<=400))=true
 ·have hmk:=λW=>azC l.length (by simp at hb;omega) W
  gi_wp2_with (refine⟨trivial, ?_⟩;gi_at_call 50;refine(akC Fence.wide _ trivial rfl _ _ _ _).mono ?_;rintro e w' ⟨rfl,rfl⟩;rw[hb])
  refine wpIn_loop (λa' W=>∃(U:Nat->Value) (i:Nat) (st:List Int) (ms:List Nat),i<=l.length/\jg [] ((l.take i).map (·.kids))=some st/\st.length=i/\FH w l.length st W/\Marks w.heap.size ms W/\
   a'={tmps:=#[.slice a l.length cap,undef,.pointer (some ⟨w.heap.size,0,none⟩),.pointer (some ⟨w.heap.size+1,0,none⟩),.pointer (some ⟨w.heap.size+3,0,none⟩),U 5,U 6,U 7,undef,U 9,.slice a l.length cap,.int .i64 (l.length:Int),.bool true,.bool false,.slice a l.length cap,.int .i64 (l.length:Int),.slice (some ⟨w.heap.size+2,0,none⟩) l.length l.length,.slice a l.length cap,.int .i64 (l.length:Int),.int .i64 (i:Int),U 20,U 21,U 22,U 23,U 24,U 25,U 26,U 27,U 28,U 29,U 30,U 31,U 32,U 33,U 34,U 35,U 36,U 37,U 38,U 39,U 40,U 41,U 42,U 43,U 44,U 45,U 46,U 47,U 48,U 49,U 50,U 51,U 52,U 53,U 54,U 55,U 56],defers:=ms.map av6}) (λa' _=>((l.length:Int) - intOf (a'.tmps.getD 19 undef)).toNat) ?start ?round
  case start=>
   refine⟨λ_=>undef,0,[],[],Nat.zero_le _,by simp[jg],rfl, ?_,⟨List.nodup_nil,λD h=>by cases h⟩, ?_⟩
   ·have g0:=Boxed.new w 75 (.slice none 0 0);have g1:=Boxed.new (w.alloc (.cells #[.slice none 0 0] 75)) 4 (.bool false);have g2:=World.alloc_heap_new ((w.alloc (.cells #[.slice none 0 0] 75)).alloc (.cells #[.bool false] 4)) (.cells (Px l.length []) 3);have g3:=Boxed.new (((w.alloc (.cells #[.slice none 0 0] 75)).alloc (.cells #[.bool false] 4)).alloc (.cells (Px l.length []) 3)) 75 (.slice (some ⟨w.heap.size+2,0,none⟩) l.length l.length);simp only[World.size_alloc] at g1 g2 g3;refine⟨((g0.alloc _).alloc _).alloc _,(g1.alloc _).alloc _, ?_,g3, ?_⟩
    ·rw[Below.heap_alloc _ _ _ (by simp)];exact g2
    ·exact((((Below.refl _ w).alloc (Nat.le_refl _) _).alloc (by simp) _).alloc (by simp;omega) _).alloc (by simp;omega) _
   ·rfl
  case round=>
   rintro a' W ⟨U,i,st,ms,hi,hs,hsl,hB,hM,rfl⟩;have hst:=adF _ _ _ YG hs
   by_cases hlt:i<l.length
   ·obtain⟨a0,cap0,ea,hN'⟩:=hN;have hne:l≠[]:=by intro e;subst e;simp at hlt
    obtain⟨b,off,e1,hbn,hnodes⟩:=hN' hne;cases ea;subst e1;clear hN';obtain⟨nd,hnd⟩:∃nd,l[i]? =some nd:=⟨l[i],by simp[hlt]⟩
    have hkn:=hkl nd (List.mem_of_getElem? hnd);obtain⟨sv,h0,h1,h2,h3,h4,hk⟩:=hnodes i nd hnd;have hkW:=hk.below hB.bel;have c0:W.cell? ⟨b,off+i * 5,none⟩=some (.int .i64 nd.kind):=(hB.bel.cell (p:=⟨b,off+i * 5,none⟩) hbn).trans h0;have c1:W.cell? ⟨b,off+i * 5+1,none⟩=some (.int .i64 nd.op):=(hB.bel.cell (p:=⟨b,off+i * 5+1,none⟩) hbn).trans h1;have c2:W.cell? ⟨b,off+i * 5+2,none⟩=some (.string nd.text):=(hB.bel.cell (p:=⟨b,off+i * 5+2,none⟩) hbn).trans h2;have c3:W.cell? ⟨b,off+i * 5+3,none⟩=some (.string nd.other):=(hB.bel.cell (p:=⟨b,off+i * 5+3,none⟩) hbn).trans h3;have c4:W.cell? ⟨b,off+i * 5+4,none⟩=some sv:=(hB.bel.cell (p:=⟨b,off+i * 5+4,none⟩) hbn).trans h4;obtain⟨ka,kc,esv,hkc⟩:=hk;subst esv;clear hnodes h0 h1 h2 h3 h4 hkc
    gi_wp2_with (refine⟨trivial, ?_⟩;gi_at_call 224;refine(azB Fence.wide _ trivial rfl _ _ _ _).mono ?_;rintro e w' ⟨rfl,rfl⟩)
    clear c0 c1 c2 c3 c4;obtain⟨o1,ho1⟩:∃o,o=Obj.cells #[Value.int .i64 nd.kind,.int .i64 nd.op,.string nd.text,.string nd.other,.slice ka nd.kids.length kc] 87:=⟨_,rfl⟩
    rw[<-ho1];have hsz:=hB.size;have bA:=(Boxed.new (W.alloc o1) 3 (.int .i64 ((i:Int) - 1))).alloc (.cells #[.slice ka nd.kids.length kc] 75);have bS:=Boxed.new ((W.alloc o1).alloc (.cells #[.int .i64 ((i:Int) - 1)] 3)) 75 (.slice ka nd.kids.length kc);have hB1:=((hB.alloc o1).alloc (.cells #[.int .i64 ((i:Int) - 1)] 3)).alloc (.cells #[.slice ka nd.kids.length kc] 75);have hM1:=((hM.alloc o1).alloc (.cells #[.int .i64 ((i:Int) - 1)] 3)).alloc (.cells #[.slice ka nd.kids.length kc] 75);obtain⟨WL,hWL⟩:∃WL,WL=((W.alloc o1).alloc (.cells #[.int .i64 ((i:Int) - 1)] 3)).alloc (.cells #[.slice ka nd.kids.length kc] 75):=⟨_,rfl⟩
    rw[<-hWL] at bA bS hB1 hM1|-;simp only[World.size_alloc] at bA bS;have hWs:WL.heap.size=W.heap.size+3:=by rw[hWL];simp
    have aUS:abf w.heap.size WL (.slice ka nd.kids.length kc) nd.kids:=hkW.below (by rw[hWL];exact(((Below.refl _ W).alloc (by omega) _).alloc (by simp;omega) _).alloc (by simp;omega) _);clear hWL ho1 hkW;have azD:=hM.lt;refine wpIn_rangeFunc_ownG rfl (by decide) (gf:=234) (lb:=#[.pointer (some ⟨W.heap.size+1+1,0,none⟩)]) rfl trivial (enters_of Tryz.func234 (by kernel_rfl) rfl)
     (aq2 Fence.wide 8 trivial rfl (by decide) (W.heap.size+1+1) w.heap.size _ nd.kids hkn WL (by omega) (by omega) bS.cell aUS)
     (λh k=>h.trans k) (λW' k o o' hk h h1 h2=>KpB.keeps W' k o o' (by omega) h h1 h2) (Below.refl _ _) (λ_=>rfl)
     (λpre WX=>FH w l.length st WX/\Marks w.heap.size ms WX/\∃at_,gX st (pre.map (·.2)) ((i:Int) - 1)=some at_/\Boxed WX (W.heap.size+1) 3 (.int .i64 at_))
     (λc pre WX=>c=.ret/\FH w l.length st WX/\Marks w.heap.size ms WX/\gX st (pre.map (·.2)) ((i:Int) - 1)=none)
     (by rintro s A B row ⟨q1,q2,at_,q3,q4⟩ hg hr;refine⟨q1.grown hg (λr e=>by have:=(hr r e).1;omega),q2.grown hg (λr e hm=>by have:=(hr r e).1;have:=azD r hm;omega),at_,q3,q4.kept hg (λe=>by have:=(hr _ e.symm).1;omega)⟩)
     (by rintro c s A B row ⟨q0,q1,q2,q3⟩ hg hr;exact⟨q0,q1.grown hg (λr e=>by have:=(hr r e).1;omega),q2.grown hg (λr e hm=>by have:=(hr r e).1;have:=azD r hm;omega),q3⟩)
     ⟨hB1,hM1,_,rfl,bA⟩
     (λx=>{tmps:=#[.slice (some ⟨b,off,none⟩) l.length cap,undef,.pointer (some ⟨w.heap.size,0,none⟩),.pointer (some ⟨w.heap.size+1,0,none⟩),.pointer (some ⟨w.heap.size+3,0,none⟩),.int .i64 (i:Int),.pointer (some ⟨W.heap.size,0,none⟩),.pointer (some ⟨W.heap.size+1,0,none⟩),undef,.int .i64 x.2,.slice (some ⟨b,off,none⟩) l.length cap,.int .i64 (l.length:Int),.bool true,.bool false,.slice (some ⟨b,off,none⟩) l.length cap,.int .i64 (l.length:Int),.slice (some ⟨w.heap.size+2,0,none⟩) l.length l.length,.slice (some ⟨b,off,none⟩) l.length cap,.int .i64 (l.length:Int),.int .i64 (i:Int),.bool true,.int .i64 (i:Int),.pointer (some ⟨b,off+i * 5,none⟩),.agg #[.int .i64 nd.kind,.int .i64 nd.op,.string nd.text,.string nd.other,.slice ka nd.kids.length kc],.int .i64 (i:Int),.int .i64 ((i:Int) - 1),.pointer (some ⟨W.heap.size,4,none⟩),.slice ka nd.kids.length kc,.func (.func 234) #[] #[.pointer (some ⟨W.heap.size+1+1,0,none⟩)],.int .i64 x.1,.int .i64 x.2,U 31,U 32,U 33,U 34,U 35,U 36,U 37,U 38,U 39,U 40,U 41,U 42,U 43,U 44,U 45,U 46,U 47,U 48,U 49,U 50,U 51,U 52,U 53,U 54,U 55,U 56],defers:=[]}) ?assign ?body ?done ?stop
    case assign=>
     intro l' x WX K hK
     gi_wp2
     exact hK
    case body=>
     rintro l' pre x WX ⟨q1,q2,at_,q3,q4⟩ _;have hr:=MS hst _ _ _ (by omega) (by omega) q3;have d4:=q4.cell;have d4f:=q4.frozen;have d3:=q1.b3.cell;have d0:=q1.b0.cell;have d0f:=q1.b0.frozen;have d1:=q1.b1.cell;have d1f:=q1.b1.frozen
     by_cases hneg:at_<0
     ·gi_wp2
      exact⟨((KeepsOthers.setCell _ _ _).trans (KeepsOthers.setCell _ _ _)).from _,rfl,q1.fail,Marks.fail q1 q2,by simp only[List.map_append,List.map_cons,List.map_nil];rw[adH st _ _ _ x.2 q3,if_pos (.inl hneg)]⟩
     ·obtain⟨j,rfl⟩:∃j:Nat,at_=(j:Int):=⟨at_.toNat,by omega⟩
      by_cases hke:x.2=(j:Int)
      ·have hz:=Wn hst j;have de:=q1.elem (j:=j) (by omega);have def_:=q1.av5 j;have hsn:=adH st (pre.map (·.2)) _ _ x.2 q3;rw[hke] at hsn;simp only[Int.toNat_natCast] at hsn;generalize st[j]?.getD 0=z at hz de hsn
       gi_wp2
       refine⟨(KeepsOthers.setCell _ _ _).from _,⟨(Below.refl _ _).setCell (p:=⟨W.heap.size+1,0,none⟩) (by show w.heap.size<=W.heap.size+1;omega) _,λv hv=> ?_⟩,q1.set (by omega) _,q2.set _ _ q4,z - 1, ?_,q4.set _⟩
       ·rw[<-hv];exact World.cell?_of_block (Below.heap_setCell _ _ _ _ (by show W.heap.size+1+1≠W.heap.size+1;omega))
       ·simp only[List.map_append,List.map_cons,List.map_nil];rw[hke,hsn,if_neg (by omega)]
      ·gi_wp2
       exact⟨((KeepsOthers.setCell _ _ _).trans (KeepsOthers.setCell _ _ _)).from _,rfl,q1.fail,Marks.fail q1 q2,by simp only[List.map_append,List.map_cons,List.map_nil];rw[adH st _ _ _ x.2 q3,if_pos (.inr hke)]⟩
    case done=>
     rintro D xs WX hD rfl ⟨q1,q2,at_,q3,q4⟩ hK;have hr:=MS hst _ _ _ (by omega) (by omega) q3;have d3:=q1.b3.cell;have d4:=q4.cell;have de:=q1.elem (j:=i) (by omega);have def_:=q1.av5 i;generalize st[i]?.getD 0=z at de
     gi_wp2
     have ei:((i:Int)+1)=((i+1:Nat):Int):=by omega
     rw[ei];have hx:(List.map (λx:Int×Int=>x.2) (bk nd.kids nd.kids.length))=nd.kids.reverse:=av7 _;rw[hx] at q3;have hcells:=q1.b2;refine⟨⟨λk=>#[Value.slice (some ⟨b,off,none⟩) l.length cap,undef,Value.pointer (some ⟨w.heap.size,0,none⟩),Value.pointer (some ⟨w.heap.size+1,0,none⟩),Value.pointer (some ⟨w.heap.size+3,0,none⟩),Value.int .i64 (i:Int),Value.pointer (some ⟨W.heap.size,0,none⟩),Value.pointer (some ⟨W.heap.size+1,0,none⟩),undef,U 9,Value.slice (some ⟨b,off,none⟩) l.length cap,Value.int .i64 (l.length:Int),Value.bool true,Value.bool false,Value.slice (some ⟨b,off,none⟩) l.length cap,Value.int .i64 (l.length:Int),Value.slice (some ⟨w.heap.size+2,0,none⟩) l.length l.length,Value.slice (some ⟨b,off,none⟩) l.length cap,Value.int .i64 (l.length:Int),Value.int .i64 ((i+1:Nat):Int),Value.bool true,Value.int .i64 (i:Int),Value.pointer (some ⟨b,off+i * 5,none⟩),Value.agg #[.int .i64 nd.kind,.int .i64 nd.op,.string nd.text,.string nd.other,.slice ka nd.kids.length kc],Value.int .i64 (i:Int),Value.int .i64 ((i:Int) - 1),Value.pointer (some ⟨W.heap.size,4,none⟩),Value.slice ka nd.kids.length kc,Value.func (.func 234) #[] #[.pointer (some ⟨W.heap.size+1+1,0,none⟩)],U 29,U 30,U 31,U 32,U 33,U 34,U 35,U 36,U 37,U 38,U 39,U 40,U 41,U 42,Value.slice (some ⟨w.heap.size+2,0,none⟩) l.length l.length,Value.int .i64 (i:Int),Value.int .i64 at_,Value.int .i64 (at_+1),Value.pointer (some ⟨w.heap.size+2,i,none⟩),Value.int .i64 ((i+1:Nat):Int),U 49,U 50,U 51,U 52,U 53,U 54,U 55,U 56].getD k undef,i+1,st++[at_+1],D::ms,hlt, ?_,by simp[hsl], ?_, ?_,rfl⟩, ?_⟩
     ·rw[List.take_add_one,hnd,Option.toList_some,List.map_append,Vq,hs];show jg st [nd.kids]=_;rw[jg,hsl,q3];rfl
     ·rw[<-hsl];exact q1.push (by omega) _
     ·refine⟨List.nodup_cons.2 ⟨λhm=>by have:=azD D hm;omega,q2.nd⟩,λd hd=> ?_⟩;have hset:=q2.set ⟨w.heap.size+2,i,none⟩ (.int .i64 (at_+1)) q1.b2;rcases List.mem_cons.1 hd with rfl|hd
      ·refine⟨by omega, ?_⟩;rw[Below.heap_setCell _ _ _ _ (by show d≠w.heap.size+2;omega)];exact hK
      ·exact hset.at_ d hd
     ·simp[intOf];omega
    case stop=>
     rintro D c pre WX hD ⟨k,hkz,rfl⟩ ⟨rfl,q1,q2,q3⟩ hK
     gi_wp2
     have hM2:Marks w.heap.size (D::ms) WX:=⟨List.nodup_cons.2 ⟨λhm=>by have:=azD D hm;omega,q2.nd⟩,λd hd=>by
      rcases List.mem_cons.1 hd with rfl|hd
      ·exact⟨by omega,hK⟩
      ·exact q2.at_ d hd⟩
     refine Xh (b:=w.heap.size) (λW'=>FH w l.length st W') (λW' d h hd=>h.grown (grownBy_putObj' W' d _) (λr e=>by cases e;exact hd)) ?_ (D::ms) WX q1 hM2;intro W' q;refine⟨_,av8 (w:=w) rfl rfl q.b0 q.b1 ⟨none,0,0,rfl⟩,q.bel,_,_,rfl,.inl ⟨?_,rfl,rfl⟩⟩;simp at hb;rw[uG,if_pos (by simp;omega)];exact anQ hnd hs (by rw[hsl];exact atS hkz q3)
   ·obtain rfl:i=l.length:=by omega
    simp at hb;have d3:=hB.b3.cell;have d0:=hB.b0.cell;have d0f:=hB.b0.frozen;have d1:=hB.b1.cell;have d1f:=hB.b1.frozen;have de:=hB.elem (j:=l.length - 1) (by omega);have def_:=hB.av5 (l.length - 1);generalize hz:st[l.length - 1]?.getD 0=z at de
    gi_wp2
    gi_region
    all_goals gi_wp2
    have k0:Boxed ((W.setCell ⟨w.heap.size,0,none⟩ (.slice (some ⟨w.heap.size+2,0,none⟩) l.length l.length)).setCell ⟨w.heap.size+1,0,none⟩ (.bool (z==0))).drew w.heap.size 75 (.slice (some ⟨w.heap.size+2,0,none⟩) l.length l.length):=(hB.b0.set _).other (by omega) _;have k1:Boxed ((W.setCell ⟨w.heap.size,0,none⟩ (.slice (some ⟨w.heap.size+2,0,none⟩) l.length l.length)).setCell ⟨w.heap.size+1,0,none⟩ (.bool (z==0))).drew (w.heap.size+1) 4 (.bool (z==0)):=(hB.b1.other (by omega) _).set _;have k2:((W.setCell ⟨w.heap.size,0,none⟩ (.slice (some ⟨w.heap.size+2,0,none⟩) l.length l.length)).setCell ⟨w.heap.size+1,0,none⟩ (.bool (z==0))).drew.heap[w.heap.size+2]? =some (.cells (Px l.length st) 3 (0,0)):=by show((W.setCell _ _).setCell _ _).heap[w.heap.size+2]? =_;rw[Below.heap_setCell _ _ _ _ (by simp),Below.heap_setCell _ _ _ _ (by simp)];exact hB.b2
    have k3:Below w.heap.size w ((W.setCell ⟨w.heap.size,0,none⟩ (.slice (some ⟨w.heap.size+2,0,none⟩) l.length l.length)).setCell ⟨w.heap.size+1,0,none⟩ (.bool (z==0))).drew:=
     ((hB.bel.setCell (p:=⟨w.heap.size,0,none⟩) (Nat.le_refl _) _).setCell (p:=⟨w.heap.size+1,0,none⟩) (Nat.le_succ _) _).drew
    have hM2:Marks w.heap.size ms ((W.setCell ⟨w.heap.size,0,none⟩ (.slice (some ⟨w.heap.size+2,0,none⟩) l.length l.length)).setCell ⟨w.heap.size+1,0,none⟩ (.bool (z==0))).drew:=
     have h:=(hM.set ⟨w.heap.size,0,none⟩ (.slice (some ⟨w.heap.size+2,0,none⟩) l.length l.length) hB.b0).set ⟨w.heap.size+1,0,none⟩ (.bool (z==0)) (hB.b1.other (by omega) _)
     ⟨h.nd,h.at_⟩
    refine Xh (b:=w.heap.size) (λW'=>Boxed W' w.heap.size 75 (.slice (some ⟨w.heap.size+2,0,none⟩) l.length l.length)/\Boxed W' (w.heap.size+1) 4 (.bool (z==0))/\W'.heap[w.heap.size+2]? =some (.cells (Px l.length st) 3 (0,0))/\Below w.heap.size w W')
     (λW' d h hd=> ?_) ?_ ms _ ⟨k0,k1,k2,k3⟩ hM2
    ·obtain⟨h0,h1,h2,h3⟩:=h;have hg:=grownBy_putObj' W' d (.deferred none);refine⟨h0.kept hg (λe=>by cases e;omega),h1.kept hg (λe=>by cases e;omega), ?_,h3.grown hg h3.size (λk e=>by cases e;omega)⟩;rw[hg.block _ (Array.getElem?_eq_some_iff.1 h2).1 (λe=>by cases e;omega)];exact h2
    ·rintro W' ⟨h0,h1,h2,h3⟩;refine⟨_,av8 (w:=w) rfl rfl h0 h1 ⟨_,_,_,rfl⟩,h3,_,_,rfl,.inr ⟨st, ?_,rfl,h2,by rw[hz]⟩⟩;rw[uG,if_pos (by simp;omega)];rw[List.take_length] at hs;exact hs
 ·have hb':(decide (1<=(l.length:Int)) && decide ((l.length:Int)<=400))=false:=by simpa using hb
  gi_wp2_with (refine⟨trivial, ?_⟩;gi_at_call 50;refine(akC Fence.wide _ trivial rfl _ _ _ _).mono ?_;rintro e w' ⟨rfl,rfl⟩;rw[hb'])
  have g0:=(Boxed.new w 75 (.slice none 0 0)).alloc (.cells #[.bool false] 4);have g1:=Boxed.new (w.alloc (.cells #[.slice none 0 0] 75)) 4 (.bool false);simp only[World.size_alloc] at g1;refine⟨_,av8 (w:=w) rfl rfl g0 g1 ⟨none,0,0,rfl⟩,((Below.refl _ w).alloc (Nat.le_refl _) _).alloc (by simp) _,_,_,rfl,.inl ⟨?_,rfl,rfl⟩⟩;rw[uG,if_neg];intro h;simp at hb h;omega
end Go.Proofs.YthmchnpcplgciaaGreatDoor
namespace Go.Proofs.YthmchnpcplgciaaGreatDoor
set_option maxRecDepth 100000
open Go.Vm (gX jg uG)
open Go Go.Vm Go.Proofs Go.RowKit
def al4:au->Option (List Int)
 |[]=>some []
 |r::rs=>match r with
  |[.int .i64 x]=>(al4 rs).map (x:: ·)
  |_=>none
def aq4:Row->Option Nk
 |[.int .i64 k,.int .i64 op,.str t,.str u,.sl _ 1 kids]=>(al4 kids).bind λks=>if ks.length<=1048576 then some ⟨k,op,⟨⟨t⟩⟩,⟨⟨u⟩⟩,ks⟩ else none
 |_=>none
def YH:au->Option (List Nk)
 |[]=>some []
 |r::rs=>(aq4 r).bind λk=>(YH rs).map (k:: ·)
def Wp(l:List Int):au:=l.map λx=>[.int .i64 x]
def M.kQ(rows:au):Option (au×Bool):=(YH rows).bind λl=>if l.length<=1048576 then
 (match uG (l.map (·.kids)) with
  |none=>some ([],false)
  |some st=>some (Wp st,st[l.length - 1]?.getD 0==0)) else none
def Prim.kQ(a:List V)(c:List Cell):Option (au×List Cell):=match a,c with
 |[.d (.sl _ 5 rows)],[]=>(M.kQ rows).map λr=>([[.sl true 1 r.1],[.bool r.2]],[])
 |_,_=>none
def anR:∀(rs:au) (l:List Int),al4 rs=some l->rs=Wp l
 |[],l,h=>by simp only[al4,lM] at h;subst h;rfl
 |r::rs,l,h=>by
  unfold al4 at h;split at h
  ·cases hd:al4 rs with
   |none=>rw[hd] at h;cases h
   |some l'=>rw[hd] at h;cases h;rw[anR rs l' hd];rfl
  ·cases h
def anS{r:Row}{n:Nk}(h:aq4 r=some n):∃t u own,n.text=⟨⟨t⟩⟩/\n.other=⟨⟨u⟩⟩/\n.kids.length<=1048576/\r=[.int .i64 n.kind,.int .i64 n.op,.str t,.str u,.sl own 1 (Wp n.kids)]:=by
 unfold aq4 at h;split at h
 ·rename_i k op t u own' kids;cases hk:al4 kids with
  |none=>rw[hk] at h;cases h
  |some ks=>
   rw[hk,ah] at h;split at h
   ·cases h;obtain rfl:=anR kids ks hk;exact⟨t,u,own',rfl,rfl,by assumption,rfl⟩
   ·cases h
 ·cases h
def adI:∀(rs:au) (l:List Nk),YH rs=some l->rs.length=l.length/\∀(i:Nat) n,l[i]? =some n->∃r,rs[i]? =some r/\aq4 r=some n
 |[],l,h=>by simp only[YH,lM] at h;subst h;exact⟨rfl,λi n hn=>by simp at hn⟩
 |r::rs,l,h=>by
  rw[YH] at h;cases hd:aq4 r with
  |none=>rw[hd] at h;cases h
  |some k=>
   rw[hd,ah] at h;cases hds:YH rs with
   |none=>rw[hds] at h;cases h
   |some l'=>
    rw[hds] at h;cases h;obtain⟨h1,h2⟩:=adI rs l' hds;refine⟨by simp[h1],λi n hn=> ?_⟩;cases i with
    |zero=>simp only[List.getElem?_cons_zero,lM] at hn;subst hn;exact⟨r,rfl,hd⟩
    |succ i=>simp only[List.getElem?_cons_succ] at hn|-;exact h2 i n hn
def MO{h:View}{s:Nat}:∀{rs:au} {b o i:Nat} {r:Row},rP h s rs b o->rs[i]? =some r->r.length=s/\zU h r b (o+i * s)
 |[],b,o,i,r,q,hi=>by simp at hi
 |r'::rs,b,o,i,r,q,hi=>by
  simp only[rP] at q;cases i with
  |zero=>simp only[List.getElem?_cons_zero,lM] at hi;subst hi;simp only[Nat.zero_mul,Nat.add_zero];exact⟨q.1,q.2.1⟩
  |succ i=>simp only[List.getElem?_cons_succ] at hi;obtain⟨h1,h2⟩:=MO q.2.2 hi;refine⟨h1, ?_⟩;rw[show o+(i+1) * s=o+s+i * s by rw[Nat.succ_mul];omega];exact h2
def PZ{w:World}{U Y:Nat->Prop}{b o:Nat}{v:Value}(h:view w U Y b o=some v):w.cell? ⟨b,o,none⟩=some v/\b<w.heap.size:=by
 unfold view at h;split at h
 ·refine⟨h, ?_⟩;unfold World.cell? at h;cases ho:w.heap[b]? with
  |none=>simp[ho] at h
  |some o=>exact(Array.getElem?_eq_some_iff.1 ho).1
 ·cases h
def azE{w:World}{U Y:Nat->Prop}{own:Bool}{ks:List Int}{v:Value}(h:ro (view w U Y) (.sl own 1 (Wp ks)) v):abf w.heap.size w v ks:=by
 simp only[ro] at h;obtain⟨a,cap,rfl,hc,hr⟩:=h;have hl:(Wp ks).length=ks.length:=by simp[Wp]
 refine⟨a,cap,by rw[hl],λhz=> ?_⟩;obtain⟨b,o,rfl,hrr⟩:=hr (by intro e;apply hz;simpa[Wp] using e);have get:∀j,j<ks.length->w.cell? ⟨b,o+j,none⟩=some (.int .i64 (ks[j]?.getD 0))/\b<w.heap.size:=by
  intro j hj;have e:(Wp ks)[j]? =some [D.int .i64 (ks[j]?.getD 0)]:=by simp[Wp,hj]
  obtain⟨_,h2⟩:=MO hrr e;simp only[zU,Nat.mul_one] at h2;obtain⟨⟨v,hv,hv2⟩,_⟩:=h2;simp only[ro] at hv2;subst hv2;exact PZ hv
 have hpos:0<ks.length:=by
  cases ks with
  |nil=>exact absurd rfl hz
  |cons _ _=>simp
 exact⟨b,o,rfl,(get 0 hpos).2,λj hj=>(get j hj).1⟩
def av9{w:World}{U Y:Nat->Prop}{own:Bool}{rows:au}{l:List Nk}{v:Value}(hd:YH rows=some l)(h:ro (view w U Y) (.sl own 5 rows) v):aso w.heap.size w v l:=by
 simp only[ro] at h;obtain⟨a,cap,rfl,hc,hr⟩:=h;obtain⟨hl,hg⟩:=adI rows l hd;refine⟨a,cap,by rw[hl],λhz=> ?_⟩;obtain⟨b,o,rfl,hrr⟩:=hr (by intro e;subst e;simp at hl;exact hz (List.length_eq_zero_iff.1 hl.symm));have get:∀i n,l[i]? =some n->av4 w.heap.size w b (o+i * 5) n/\b<w.heap.size:=by intro i n hn;obtain⟨r,hri,hdk⟩:=hg i n hn;obtain⟨_,h2⟩:=MO hrr hri;obtain⟨t,u,own',e1,e2,_,rfl⟩:=anS hdk;simp only[zU] at h2;obtain⟨⟨v0,h0,r0⟩,⟨v1,h1,r1⟩,⟨v2,h2,r2⟩,⟨v3,h3,r3⟩,⟨v4,h4,r4⟩,_⟩:=h2;simp only[ro] at r0 r1 r2 r3;subst r0 r1 r2 r3;exact⟨⟨v4,(PZ h0).1,(PZ h1).1,by rw[e1];exact(PZ h2).1,by rw[e2];exact(PZ h3).1,(PZ h4).1,azE r4⟩,(PZ h0).2⟩
 have hpos:∃n,l[0]? =some n:=by
  cases l with
  |nil=>exact absurd rfl hz
  |cons n _=>exact⟨n,rfl⟩
 obtain⟨n0,hn0⟩:=hpos;exact⟨b,o,rfl,(get 0 n0 hn0).2,λi n hn=>(get i n hn).1⟩
def aq5{rows:au}{l:List Nk}(hd:YH rows=some l):∀n,n∈l->n.kids.length<=1048576:=by intro n hn;obtain⟨i,hi⟩:=List.mem_iff_getElem?.1 hn;obtain⟨r,_,hdk⟩:=(adI rows l hd).2 i n hi;obtain⟨_,_,_,_,_,h,_⟩:=anS hdk;exact h
def ae6{H:Heap}{h:View}:∀(st:List Int) (cs:List Value),cs=st.map (Value.int .i64)++cs.drop st.length->iP H h 1 (Wp st) cs []
 |[],cs,e=>rfl
 |x::st,cs,e=>by
  cases cs with
  |nil=>simp at e
  |cons c cs=>simp only[zmc,zca,ZE,List.drop_succ_cons,List.cons.injEq] at e;obtain⟨rfl,e⟩:=e;simp only[Wp,zmc,iP];refine⟨rfl,[],[],rfl, ?_,ae6 st cs e⟩;simp only[jU];exact⟨_,_,[],[],rfl,rfl,⟨rfl,rfl⟩,rfl⟩
def ajl{X:Ctx}(hP:X.P=Tryz.prog)(hm:PG X.TI 202 0=0)(fn:Func)(args:List V)(cells:List Cell)(rows:au)(outs:List Cell)(hf:X.P.funcs[202]? =some fn)(h:Prim.kQ args cells=some (rows,outs))
  (base:Nat) (U:Nat->Prop) (w:World) (gargs nG:List Value) (N1 N2:List Nat) (hG:Given X base U w 202 args cells gargs nG N1 N2):
  Calls X.P 202 gargs.toArray w λe w'=>∃gs M1 M2,e=.returned (afl gs)/\Did X.P U w w' (N1++N2) fn.resultTypes.toList cells outs nG rows gs M1 M2:=by
 unfold Prim.kQ at h;split at h
 ·rename_i own rws;cases hs:M.kQ rws with
  |none=>rw[hs] at h;cases h
  |some r=>
   rw[hs] at h;cases h;rw[hP] at hf;have hfn:fn.resultTypes.toList=[75,4]:=by rw[Tryz.func202] at hf;cases hf;rfl
   have ha:=hG.args;simp only[TU,hm] at ha;obtain⟨v0,gs',n1,n2,rfl,rfl,⟨rfl,hv0⟩,rfl,rfl⟩:=ha;have hc:=hG.cells;obtain⟨rfl,rfl⟩:=hc;simp only[bn] at hv0;unfold M.kQ at hs;cases hd:YH rws with
   |none=>rw[hd] at hs;cases hs
   |some l=>
    rw[hd,ah] at hs;split at hs
    ·rename_i hlen;have hN:=av9 hd hv0;have hN':=hN;obtain⟨a,cap,rfl,_⟩:=hN';have hk:=aq5 hd;have hcall:=callsIn_wide.1 (atT w a cap l ak (λn hn=>by have:=hk n hn;omega) hN);rw[hP];refine hcall.mono ?_;rintro e w' ⟨hbel,g,bb,rfl,hres⟩;rw[hfn];have hkeep:Keep [] w w':=⟨hbel.os,hbel.tape,hbel.output,hbel.size,λb hb _=>hbel.block b hb⟩
     rcases hres with⟨hno,rfl,rfl⟩|⟨st,hst,rfl,hblk,rfl⟩
     ·rw[hno] at hs;cases hs;refine⟨[.slice none 0 0,.bool false],[],[],rfl,hkeep,by simp,λb hb=>by simp at hb,rfl,⟨rfl,rfl⟩, ?_⟩;simp only[VY];refine⟨_,_,_,_,[],[],rfl,rfl,rfl,(Rn (by kernel_rfl)).2 ⟨[.slice none 0 0], ?_, ?_,rfl⟩,_,_,_,_,[],[],rfl,rfl,rfl,(Rn (by kernel_rfl)).2 ⟨[.bool false], ?_, ?_,rfl⟩,rfl,rfl,rfl⟩
      ·rw[Vm.valOf,if_neg (by intro e;revert e;rw[show RH Tryz.prog 75=false by kernel_rfl];simp)]
      ·simp only[jU];exact⟨_,_,[],[],rfl,rfl,.inl ⟨rfl,rfl,rfl⟩,rfl⟩
      ·rw[Vm.valOf,if_neg (by intro e;revert e;rw[show RH Tryz.prog 4=false by kernel_rfl];simp)]
      ·simp only[jU];exact⟨_,_,[],[],rfl,rfl,⟨rfl,rfl⟩,rfl⟩
     ·rw[hst] at hs;cases hs;have hsl:st.length=l.length:=by
       unfold uG at hst;split at hst
       ·have:=abg _ _ _ hst;simpa using this
       ·cases hst
      have hlt:w.heap.size+2<w'.heap.size:=(Array.getElem?_eq_some_iff.1 hblk).1;refine⟨[.slice (some ⟨w.heap.size+2,0,none⟩) l.length l.length,.bool (st[l.length - 1]?.getD 0==0)],[],[w.heap.size+2],rfl,hkeep,by simp,λb hb=> ?_,rfl,⟨rfl,rfl⟩, ?_⟩
      ·simp at hb;subst hb;exact⟨.inr ak,hlt⟩
      ·simp only[VY];refine⟨_,_,_,_,[w.heap.size+2],[],rfl,rfl,rfl,(Rn (by kernel_rfl)).2 ⟨[.slice (some ⟨w.heap.size+2,0,none⟩) l.length l.length], ?_, ?_,rfl⟩,_,_,_,_,[],[],rfl,rfl,rfl,(Rn (by kernel_rfl)).2 ⟨[.bool (st[l.length - 1]?.getD 0==0)], ?_, ?_,rfl⟩,rfl,rfl,rfl⟩
       ·rw[Vm.valOf,if_neg (by intro e;revert e;rw[show RH Tryz.prog 75=false by kernel_rfl];simp)]
       ·simp only[jU];refine⟨_,_,[w.heap.size+2],[],rfl,rfl,.inr ⟨w.heap.size+2,l.length,Px l.length st,3,[], ?_,by simp[Wp,hsl],hblk, ?_, ?_,rfl⟩,rfl⟩
        ·simp[Wp,hsl]
        ·rw[abh ak,Nat.mul_one]
        ·refine ae6 st _ ?_;have:l.length - st.length=0:=ak;simp[Px,this]
       ·rw[Vm.valOf,if_neg (by intro e;revert e;rw[show RH Tryz.prog 4=false by kernel_rfl];simp)]
       ·simp only[jU];exact⟨_,_,[],[],rfl,rfl,⟨rfl,rfl⟩,rfl⟩
    ·cases hs
 ·cases h
end Go.Proofs.YthmchnpcplgciaaGreatDoor
namespace Go.Proofs.YthmchnpcplgciaaGreatDoor
open Go Go.Vm
def FI:Row:=[.str [66,69,71,73,78],.str [69,78,68],.str [102,117,110,99,116,105,111,110],.str [105,102],.str [101,108,115,101],.str [119,104,105,108,101],.str [102,111,114],.str [100,111],.str [98,114,101,97,107],.str [99,111,110,116,105,110,117,101],.str [110,101,120,116],.str [101,120,105,116],.str [114,101,116,117,114,110],.str [100,101,108,101,116,101],.str [105,110],.str [112,114,105,110,116],.str [112,114,105,110,116,102]]
def Wq:Row:=[.str [123],.str [125],.str [40],.str [41],.str [91],.str [93],.str [44],.str [59],.str [43,61],.str [45,61],.str [42,61],.str [47,61],.str [37,61],.str [94,61],.str [124,124],.str [38,38],.str [33,126],.str [61,61],.str [60,61],.str [62,61],.str [33,61],.str [43,43],.str [45,45],.str [62,62],.str [61],.str [43],.str [45],.str [42],.str [47],.str [37],.str [94],.str [33],.str [62],.str [60],.str [124],.str [63],.str [58],.str [126],.str [36]]
def Nu:Row:=[.str [97,116,97,110,50],.str [99,108,111,115,101],.str [99,111,115],.str [101,120,112],.str [103,115,117,98],.str [105,110,100,101,120],.str [105,110,116],.str [108,101,110,103,116,104],.str [108,111,103],.str [109,97,116,99,104],.str [114,97,110,100],.str [115,105,110],.str [115,112,108,105,116],.str [115,112,114,105,110,116,102],.str [115,113,114,116],.str [115,114,97,110,100],.str [115,117,98],.str [115,117,98,115,116,114],.str [115,121,115,116,101,109],.str [116,111,108,111,119,101,114],.str [116,111,117,112,112,101,114]]
def M.strings_Contains(s t:aI):Option Bool:=match t with
 |[c]=>some (decide (0<=Lib.indexByte s c))
 |_=>none
def Prim.strings_Contains(a:List V)(c:List Cell):Option (au×List Cell):=match a,c with
 |[.d (.str s),.d (.str t)],[]=>(M.strings_Contains s t).map λr=>([[.bool r]],[])
 |_,_=>none
abbrev sW{R:Type}(x r:au)(n:Nat)(k:au->Option R):Option R:=bif((x.length+r.length) * n).ble 140737488355328 then(bif(x.length+r.length).ble 140737488355328 then k (x++r) else none) else none
def aUT(r:Int×Int×aI×au×Int):Row:=[D.int .i64 r.1,D.int .i64 r.2.1,D.str r.2.2.1,D.sl false 5 (aF r.2.2.2.1),D.int .i64 r.2.2.2.2]
def aUU(r:Int×Int×aI×au×Int):Int×Int×aI×au×Int:=(r.1,r.2.1,r.2.2.1,aF r.2.2.2.1,r.2.2.2.2)
def qh{R:Type}(n:Nat)(x:Row)(k:Int->Int->aI->aI->au->Option R):Option R:=(dG .i64 x 0).bind λa=>(dG .i64 x 1).bind λb=>(cStr x 2).bind λc=>(cStr x 3).bind λd=>(cSl n x 4).bind λe=>k a b c d e
abbrev eH{A B C D E F G:Type}(f:A->B->C->D->E->G)(p:A×B×C×D×E×F):G:=f p.1 p.2.1 p.2.2.1 p.2.2.2.1 p.2.2.2.2.1
abbrev iK(n:Int):V:=V.d (D.int .i64 n)
abbrev jO(b:Bool):V:=V.d (D.bool b)
abbrev KI(s:aI):V:=V.d (D.str s)
abbrev wB(n:Nat)(r:au):V:=V.d (D.sl false n r)
def I7:(∀(R:Type) (x r:au) (n:Nat) (k:au->Option R),sW x r n k=bif((x.length+r.length) * n).ble 140737488355328 then(bif(x.length+r.length).ble 140737488355328 then k (x++r) else none) else none)/\(∀r,aUT r=[D.int .i64 r.1,D.int .i64 r.2.1,D.str r.2.2.1,D.sl false 5 (aF r.2.2.2.1),D.int .i64 r.2.2.2.2])/\(∀r,aUU r=(r.1,r.2.1,r.2.2.1,aF r.2.2.2.1,r.2.2.2.2))/\(∀(R:Type) (n:Nat) (x:Row) (k:Int->Int->aI->aI->au->Option R),qh n x k=(dG .i64 x 0).bind λa=>(dG .i64 x 1).bind λb=>(cStr x 2).bind λc=>(cStr x 3).bind λd=>(cSl n x 4).bind λe=>k a b c d e):= ⟨λ_ _ _ _ _=>rfl,λ_=>rfl,λ_=>rfl,λ_ _ _ _=>rfl⟩
noncomputable section
variable {R:Type}
def kd:List Nat->List (List Nat)->List (List Nat)
 |_,[]=>[]
 |p,l::r=>match l with
  |[]=>[]::kd [] r
  |k::l=>(p.take k++l)::kd (p.take k++l) r
def kp3:=kd [] [[0,0],[1,13],[0,2],[0,3,4],[2,5,6,7],[5,28],[0,5,6,7,10],[0,2],[0,3,4,5,6,55],[0,2],[0,3,4,5,6,11],[5,58],[5],[5,66],[0,2],[1]]
def kp5:=[[0],[2]]
def kp6:=kd [] [[0,0,3],[2,4],[3,5],[4,6],[5,14],[5],[5],[4,24],[0,3,4,5],[3,28],[0,2,3],[2]]
def kp7:=kd [] [[0,0,3,6],[3,13],[0,4,5,6],[0,0,3,6,7],[4,19],[0,4,5,6],[0,0,3,6,8],[1,6,8,9],[4,30],[0,4,5,6],[0,6,8,9,10],[4,43],[0,4,5,6],[3]]
def kp8:=kd [] [[0,0,3,6],[3,13],[0,4,5,6],[0,0,3,6,18],[0,4,5,6],[0,0,3,6,7],[4,24],[0,4,5,6],[0,0,3,6,43],[0,4,5,6],[0,0,3,6,8],[4,9],[5,57],[1,6,8,9],[4],[4,67],[0,4,5,6],[0,6,8,9,10],[4,80],[0,4,5,6],[3]]
def kp9:=kd [] [[0,0,1,5],[3,31],[0,6],[0,0,1,5,7],[4,8],[5,38],[5],[5],[0,6]]
def aUV:=[[0,1,5],[0,1,5,20],[6],[1,7,8],[6]]
def aUW:=kd [] [[0,0],[1,3],[2,4],[3,15],[3],[3],[0,2]]
def aUX:=[[0],[0,3],[0,3,13],[0,3,4],[0,3,4,19],[2],[0,3,4,19,30],[2],[0,3,4,19,35],[3],[0,3,4,42,5003],[2],[2]]
def aUY:=[[0,1],[4]]
def aUZ:=kd [] [[0,0],[0,3],[1,4],[2,11],[2,5],[3,16],[3],[3],[0,2]]
def aU0:=[[0],[0]]
def aU1:=kd [] [[0,0,2],[2,3],[3,15],[4,16],[0,2,3],[2,15,22],[2],[2,15,25],[2],[2],[2,15,29],[4],[2,29],[2],[1]]
def aU2:=[[1],[2]]
def aU3:=[[0,2],[0,2,6],[2],[0,2,3],[0,2,3,11],[2],[2]]
def aU4:=[[0,3,4],[0,3,4,5],[0,3,4,5,18],[4],[0,3,4,5,22],[0,3,4,5,22,23],[4],[0,3,4,5,22,28],[4],[0,3,4,5,22,33],[4],[0,3,4,5,22,38],[4],[0,3,4,5,22,43],[4],[0,3,4,5,22,48],[4],[0,3,4,5,22,53],[4],[0,3,4,5,22,58],[4],[0,3,4,5,22,63],[4],[0,3,4,5,22,68],[4],[0,3,4,5,22,73],[4],[0,3,4,5,22,78],[4],[0,3,4,22,83],[4],[0,3,4,87],[0,4,95],[4],[4],[4]]
def aU5:=[[0,1],[0,1,5],[4],[0,15],[4],[4]]
def aU6:=[[1,2],[1,2,3],[2],[2,8],[2],[2]]
def aU7:=[[1],[2]]
def aU8:=[[1],[2]]
def aU9:=kd [] [[0,0],[1,9],[0,2],[0,0,3],[2,4],[3,13],[3],[3,5],[4,20],[4],[4,6],[3,6,60],[0,2],[0,0,4,6,79],[0,2],[0,0,3,4],[0,2]]
def aVa:=kd [] [[0,0],[1,3],[2,4],[3,8],[3],[3,16],[3],[3,25],[3],[3,29],[0,2],[1]]
def aVb:=[[0,1,2,6],[0,1,2,6,11],[6],[0,2,6,21],[6],[2,6,7],[6]]
def aVc:=[[0],[3],[3,4],[3,4],[3,4],[3,4],[3,4],[3,4],[4],[2],[2]]
def aVd:=[[0],[2]]
def aVe:=[[0],[0,12],[2],[2]]
def aVf:=kd [] [[0,0,3,4],[3,5],[4],[4,19],[4],[0,4,5,6],[1]]
def aVg:=kd [] [[0,0,3,4],[3,8],[0,4],[0,0,3,4,11],[4,12],[0,4],[0,0,3,4,11,17],[0,4],[0,0,3,4,11,22],[0,4],[0,0,3,4,11,27],[5],[0,4],[0,0,3,4,11,35],[5],[5],[5],[5],[0,4],[0,0,3,4,11,46],[0,4],[0,0,3,4,11,51],[0,4],[0,0,3,4,11,56],[0,4],[0,0,3,4,61],[0,4],[1]]
def aVh:=[[0,2],[0,2,5],[2],[2,9],[2],[2]]
def aVi:=[[0],[2]]
def aVj:=kd [] [[0,0,1],[1,5],[2,6],[3,7],[4,17],[5,18],[4],[4,17,26],[4],[4,34],[4],[4,8],[5,46],[5],[5],[0,5,6,7,60],[0,6,7],[2,69],[0,7],[0,4]]
def aVk:=kd [] [[0,1,2,3,5,9],[5,11],[6,34],[0,10],[0,1,2,3,5,9,11,60],[0,10],[0,1,2,3,5,9,72],[0,10],[1]]
def aVl:=[[0],[2]]
def aVm:=[[0,1],[4]]
def aVn:=[[1],[2]]
def aVo:=[[0,3],[0,6,7,8],[4,5]]
def aVp:=[[0,1],[4]]
def aVq:=[[0],[0,4],[0,4,5],[2],[0,9],[2],[2]]
def aVr:=[[0,1],[0,1,10],[4],[0,1,12],[4],[0,1,5],[0,1,5,6],[0,1,5,6,7],[1,5,6,7,8],[4]]
def aVs:=[[0,2],[0,2,6],[0,2,6,7],[2],[0,2,6,12],[2],[0,2,6,17],[2],[0,2,6,22],[0,2,6,22],[2],[0,2,6,28],[2],[0,2,34],[2,3],[2],[2,4],[2]]
def aVt:=[[0,2],[2]]
def aVu:=[[0,1],[4]]
def aVv:=[[0,1,2],[6]]
def aVw:=kd [] [[0,0],[1,9],[0,2],[0,0,3],[2,10,11,12],[5,13],[2,4,5,10,11,12],[4,6,10,11,12],[8,21],[2,5,6,10,11,12],[7,28],[0,2],[0,0,3,5,6,10,11,12,32],[0,2],[0,0,3,5,10,11,12,40],[0,2],[0,0,3,5,10,11,12,52],[1,5,10,11,12,52],[0,2],[0,0,3,10,11,12],[5],[0,2]]
def aVx:=kd [] [[0,0],[1,3],[0,3,6,7,8],[4,9],[1,4,5,6,7,8],[6,13],[2,6,7,8],[5,19],[5],[5,27],[0,2],[0,3,6,7,8],[0,2]]
def aVy:=[[0],[3],[3,4],[3,4],[3,4],[3,4],[3,4],[3,4],[4],[2],[2]]
def aVz:=[[0],[0,12],[2],[2]]
def aVA:=[[0,2],[2],[2]]
def aVB:=kd [] [[0,0,3,4],[3,5],[4,25],[0,4],[0,0,3,4,5,6],[5],[0,4,5,6,7],[1]]
def aVC:=kd [] [[0,0,3,4],[3,5],[4,19],[0,4],[0,0,3,4,5],[4,6],[5],[5,36],[0,4],[1,5,6,7],[1]]
def aVD:=kd [] [[0,0,3,4],[3,5],[4,18],[4],[4],[4],[0,4]]
def aVE:=kd [] [[0,0,3,4],[3,5],[4,18],[4],[4],[4],[0,4]]
def aVF:=kd [] [[0,0,3,4],[3,5,6],[5,26],[4],[4,6],[5,45],[0,4],[0,0,3,4,5,6],[5,65],[5],[5,74],[5],[4],[4,6],[0,4]]
def aVG:=kd [] [[0,0,3,4],[3,5],[4,23],[0,4],[0,0,3,4,5,6],[5],[0,4]]
def aVH:=kd [] [[0,0,3,4],[3,5],[4,28],[0,4],[0,0,3,4,5,6],[5],[0,4]]
def aVI:=kd [] [[0,0,3,4],[3,5],[4,18],[4],[0,4]]
def aVJ:=kd [] [[0,0,3,4],[3,5],[4,20],[4,6],[5],[4],[0,4]]
def aVK:=kd [] [[0,0,3,4],[3,5],[4,20],[4,6],[5],[4],[0,4]]
def aVL:=[[0,3,4],[0,3,4,5],[0,3,4,5,24],[4],[0,3,4,5],[4,5,6],[4]]
def aVM:=[[0,3,4],[0,3,4,5],[0,3,4,5,16],[4],[0,3,4,5],[4]]
def aVN:=[[0,2],[0,2,14],[2],[0,2,3],[0,2,3,33],[2],[0,2,3,4],[2,3,4],[2]]
def aVO:=[[0],[2]]
def aVP:=[[0,2],[0,2,3],[0,2,3],[2,3,4],[2]]
def aVQ:=[[0,2],[0,2,12],[2],[0,2],[0,2,3],[0,2,3,25],[2,3],[2,3],[2]]
def aVR:=kd [] [[0,0,2],[2,9],[0,2],[0,0,2,3],[3,13],[4,14],[0,2],[0,0,2,3,13,20],[0,2],[0,0,2,3,13,26],[0,2],[0,0,2,3,13,32],[0,2],[0,0,2,3,13,36],[5],[3,4],[2,4,43],[3],[3,52],[0,2],[0,0,2,4,56],[0,2,4],[1],[0,0,2,62],[2],[2,5],[0,2,5],[1],[1]]
def aVS:=kd [] [[0,1],[1,3],[0,3,7,8,9],[4,10],[1,5,7,8,9],[1,7,8,9],[4],[0,2]]
def aVT:=kd [] [[0,1],[1,3],[0,3,7,8,9],[4,10],[1,5,7,8,9],[1,7,8,9],[4],[0,2]]
def aVU:=kd [] [[0,1,2],[2,5],[1,5,18,19,20],[5,21],[2,7,18,19,20],[2,18,19,20],[5],[5],[0,4]]
def aVV:=[[0,1,2],[6]]
def aVW:=[[1],[1,3],[1,3,8],[1,3,8,9],[2],[1,3,8,24],[2],[1,3,8,35],[2],[1,3,8,42],[2],[1,8,49],[1,8,49],[2],[1,55],[2],[2]]
def aVX:=kd [] [[0,0],[0,3],[1,4],[2],[2],[2],[2],[2],[2],[2],[0,4],[0,2],[1]]
def aVY:=[[0],[2]]
def aVZ:=[[0],[2]]
def aV1:=[[0,1,4],[0,4,15],[4],[4],[0,4,5],[4,5],[4]]
def aV2:=[[1,2,4],[4]]
def aV3:=[[1,2,4],[4]]
def aV4:=kd [] [[0,0,3,4],[3,5],[4,26],[0,4],[0,0,3,4,5,6],[5],[0,4,5,6,7],[1]]
def aV5:=kd [] [[0,0,3,4],[3,5],[4,20],[0,4],[0,0,3,4,5],[4,6],[5],[0,4,5,6,7],[1]]
def aV6:=kd [] [[0,0,3,4],[3,5],[4,16],[4],[4,6],[5],[5,7],[4],[4],[4,49],[4],[4,8],[4],[0,4]]
def aV7:=kd [] [[0,0,2,3,5,8],[5,9,10],[7,22],[7],[5,10,11],[7,12],[8,38],[8],[8,13],[9,42],[9],[9],[9,58],[9],[9,14],[8],[0,8]]
def aV8:=kd [] [[0,0,3,4],[3,5],[4,18],[4],[0,4,5,6],[1],[1]]
def aV9:=[[0,3,4],[0,3,4,5],[0,3,4,5,19],[4],[0,3,4,5],[4,5,6],[4]]
def aWa:=kd [] [[0,0,3,4],[3,9],[0,4],[0,0,4,5],[3,6],[4,32],[0,4],[1,5,6],[1]]
def aWb:=kd [] [[0,0,3,4],[3,8],[0,4],[0,0,3,4],[3,5],[4,16],[0,4,5],[2],[1]]
def aWc:=[[0,2],[0,2,7],[2],[0,2,10],[0,2,10,11],[2],[0,2,10,15],[2],[0,2,10,19],[2],[0,2,10,23],[2],[0,2,10,27],[2],[0,2,31],[2],[0,2],[0,2,3],[2,3],[2,3],[2]]
def aWd:=kd [] [[0,0],[1,9],[0,2],[0,0,3],[2,4],[3,14],[3],[3,5],[4,6],[5,24],[5],[5],[3],[0,2]]
def aWe:=kd [] [[0,0],[1,12],[0,2],[0,0,3],[2,16],[2],[2,24],[0,2],[0,0,3,4],[3,32],[3],[3,53],[0,2],[1]]
def aWf:=[[0],[2]]
def aWg:=[[1,2],[1,2,4],[1,2,4,5],[2],[1,2,4,10],[2],[1,2,4,15],[2],[1,2,20],[2],[2]]
def aWh:=kd [] [[0,0],[1,3],[2,4],[3,8],[3],[3,16],[3],[0,2]]
def aWi:=kd [] [[0,0],[1,3],[2,4],[3,8],[3],[3,16],[3],[3,24],[3],[3,28],[0,2],[1]]
def aWj:=kd [] [[0,0,1],[2,5],[3,6],[4,10],[4],[4,18],[4],[4,31],[0,4],[0,0,1,5,6,37],[4],[0,4]]
def aIa:=kd [] [[0,0],[1,24],[0,2],[0,0,3],[2,4],[3,28],[3],[3,36],[3],[3,44],[3],[3,55],[0,2],[1]]
def aIb:=[[2,3],[2,3,5],[4],[2,3,14],[4],[2,3,22],[4],[2,3,35],[4],[2,3,53],[4],[4]]
def aIc:=kd [] [[0,1,2,3,5,9],[5,11],[6,12],[7,22],[0,10],[0,1,2,3,5,9,11,50],[7,51],[0,10],[0,1,2,3,5,9,11,50,58],[0,10],[0,1,2,3,5,9,11,50,65],[0,10],[0,1,2,3,5,9,11,50,72],[0,10],[0,1,2,3,5,9,11,50,94],[0,10],[0,1,2,3,5,9,11,50,117],[0,10],[0,1,2,3,5,9,11,50,140],[0,10],[0,1,2,3,5,9,11,50,165],[0,10],[0,1,2,3,5,9,11,173],[0,10],[1]]
def aId:=kd [] [[0,0],[1,9],[0,2],[0,0,10,11,12],[4,13],[1,4,10,11,12],[5,18],[0,2],[0,0,4,10,11,12,20,21,22],[8,23],[2,5,6,10,11,12,20,21,22],[2,10,11,12,20,21,22,35],[0,2],[0,0,4,10,11,12,20,21,22],[1,10,11,12],[0,2]]
def aIe:=[[0],[2]]
def aIf:=kd [] [[0,0,1],[2,7,8],[4,9],[2,5,7,8],[5,16],[0,4],[0,0,1,7,8],[0,4]]
def aIg:=kd [] [[0,0,1,2],[3,14],[0,6],[0,1,2,15,16,17],[5,18],[2,7,8,15,16,17],[2,8,9,15,16,17],[2,15,16,17,30],[0,6],[0,1,2,15,16,17],[0,6]]
def aIh:=[[2,3],[4]]
def aIi:=[[0,1],[0,1,10],[4],[0,1,12,13],[0,1,12,13,14],[0,1,5,12,13],[0,1,12,13,24],[4],[0,1,12,13],[4]]
def aIj:=[[0,1],[0,1,7],[4],[0,1,5],[0,1,5,14],[0,1,5,14,15],[4],[0,1,5,14,19],[4],[0,1,5,14,24],[4],[0,1,5,14,33],[4],[0,1,5,14,43],[4],[0,1,5,14,54],[4],[0,1,5,14,64],[4],[0,1,14,74],[0,1,14,74],[4],[0,1,14,87],[4],[0,1,14,97],[4],[0,1,114],[4],[4]]
def aIk:=[[0,3],[0,3,22],[4],[4]]
def aIl:=[[0],[0,15],[2],[2]]
def aIm:=kd [] [[0,0,1],[2,5],[1,5,6],[3,15],[3],[3,7],[4,20],[4],[4,8],[3,8,30],[4],[4,54],[4],[4],[4],[4,68],[4],[4],[3],[2,89],[0,5],[0,4]]
def aIn:=[[0],[0,3],[0,3,11],[2]]
def aIo:=[[0],[0],[0,3],[0,3,34],[0,3],[3],[2]]
def aIp:=[[0],[2]]
def aIq:=[[0],[2]]
def aIr:=[[0],[2]]
def aIs:=[[0],[2]]
def aIt:=[[0,1],[4]]
def aIu:=[[],[0]]
def aIv:=[[0],[0,3],[2],[0,6],[2],[0,14],[2],[2]]
def aIw:=[[1],[1,5],[2],[1,7],[1,7,8],[2],[1,7,20],[2],[1,7,29],[2],[1,7,38],[2],[1,7,47],[1,7,47],[2],[1,53],[2],[2]]
def aIx:=kd [] [[0,0],[0,3],[1,4],[2],[2],[2],[2],[2],[2],[2],[0,4],[0,2],[1]]
def aIy:=[[0],[2]]
def aIz:=[[0],[2]]
def aIA:=[[0],[2]]
def aIB:=[[0,1],[0,14],[],[4],[],[4]]
def aIC:=[[0,6],[0,8],[0,8,9],[0,11],[0],[0]]
def aID:=[[0,4,5,6],[6]]
def aIE:=kd [] [[0,0],[1,3],[0,3,14,15,16],[4,17],[1,5,14,15,16],[5,20],[1,14,15,16],[1,5,14,15,16,26],[1,14,15,16],[4,32],[0,2],[0,3,14,15,16,41],[4],[0,2]]
def aIF:=[[0,1],[0,1,5],[0,1,5,14],[5],[4],[0,1,5],[5],[4]]
def aIG:=[[0],[0,11],[],[2],[2]]
def aIH:=[[0],[3],[3,4],[2],[3,6],[2],[3,8],[3,8],[2],[3,11],[3,11],[3,11],[3,11],[3,11],[3,11],[2],[3,18],[2],[3,20],[3,20],[2],[3,23],[3,23],[3,23],[2],[27],[2],[2]]
def aII:=[[0,2],[0,2,3],[0,2,8],[2],[0,2,14],[2],[2]]
def aIJ:=[[0],[0,3],[3],[2]]
def aIK:=kd [] [[0,0,2],[2,3],[3,9],[3],[0,2,3],[1]]
def aIL:=[[0],[0,3],[0,3,7],[0,3],[0,3,13],[2],[2]]
def aIM:=kd [] [[0,0,1],[2,9],[0,4],[0,0,1,5],[3,16],[3,6],[2,6,29],[0,4],[0,0,1,5],[1,5,33],[0,4],[0,0,5,43],[2,7],[3,55],[3],[3,62],[0,4],[1]]
def aIN:=[[0,1],[4]]
def aIO:=[[0,1],[1,5],[5,12],[4],[4]]
def aIP:=[[0],[2]]
def aIQ:=[[0],[2]]
def aIR:=kd [] [[0,1,2],[2,5],[3],[3,6],[4,13],[4],[4],[4],[0,4]]
def aIS:=[[1],[2]]
def aIT:=[[0],[2]]
def aIU:=kd [] [[0,0],[1,13],[0,2],[0,0,3],[2,4],[3,24],[3],[3,35],[3],[3,46],[3],[3,50],[0,2],[0,0,3,4,63],[0,2],[1]]
def aIV:=kd [] [[0,0,1,2],[3,7],[2,7,16],[0,7],[0,6],[0,0,1,7,25],[3],[3,35],[3,38],[3],[3],[3],[0,7],[0,6]]
def aIW:=[[0],[5],[5,6],[2,3],[5,8],[2,3],[5,10],[2,3],[5,12],[2,3],[5,14],[2,3],[5,16],[2,3],[18],[2,3],[2,3]]
def aIX:=[[0],[2]]
def aIY:=kd [] [[0,0,1,5],[3,7],[4,17],[0,6],[1]]
def aIZ:=[[0,16],[0,19],[0],[0]]
def aI0:=[[0,1,4],[1,4,5],[4]]
def aI1:=[[0,2],[0,2,3],[0,2,3,8],[2],[0,2,3],[2]]
def aI2:=[[0,1,4],[0,1,4,5],[0,1,4,5,21],[4],[0,1,4,5],[4]]
def aI3:=[[0],[0,8],[2],[0,3,4],[2]]
def aI4:=[[1],[1,3,4],[1,3,4,5],[2]]
def aI5:=kd [] [[0,1,2,3],[3,7],[4,8],[5,18],[6,19],[7],[0,6],[0,1,2,3,7,8,18,24],[0,6],[0,1,2,3,7,8,18,36],[0,6],[0,1,2,3,7,8,18,51],[0,6],[0,1,2,3,7,8,18,66],[0,6],[0,1,2,3,7,8,18,81],[0,6],[0,1,2,3,7,8,18,100],[7],[7],[0,6],[0,1,2,3,7,8,18,105],[0,6],[0,1,2,3,7,8,18,109],[0,6],[0,1,2,7,8,18,145],[0,6],[0,2,7,8,18,160],[0,6],[0,2,174],[0,6],[1]]
def aI6:=[[0],[2]]
def aI7:=[[1],[1,4],[1,4,5],[2],[1,4,7],[2],[1,4,9],[2],[1,4,11],[2],[4,16],[2],[4,18],[4,18],[2],[4,21],[2],[4,23],[4,23],[4,23],[4,23],[4,23],[4,23],[23],[2],[2]]
def aI8:=kd [] [[0,2,3,4,5,6,7],[6,20],[0,12],[1]]
def aI9:=[[1,2,3,4],[8]]
def aJa:=kd [] [[0,1,3,5,6],[4,26],[0,6],[0,1,3,6,7],[4,40],[0,6],[0,1,3,6,7,40,42],[1,6,7],[0,6,7,46],[2],[0,1,3,6,7,40,48],[1,6,7],[0,6,7,52],[2],[0,1,3,6,7,40,54],[0,6,7,59],[1],[1,7],[0,1,3,6,7,40,62],[4,8,9],[4,9],[0,3,6,7,9,73],[3],[0,6,7],[2,40,80],[2],[2],[2,40,84],[4],[2],[2],[2,89],[2],[2],[2],[1]]
def aJb:=[[2,3,5,6,9],[2,3,5,6,9,46],[10],[2,3,5,6,9,50],[10],[10]]
def aJc:=kd [] [[0,2,3,5,6,9],[5,11],[6,17],[6],[6,40],[6,12],[7,45],[7],[7,82],[0,10],[1]]
def aJd:=kd [] [[0,1,2,3,5,9],[0,2,3,5,9,11],[5,12],[6,24],[6],[6,13],[7,29],[7],[7,39],[7,49],[7],[7,14],[6,108],[0,10],[1]]
def aJe:=[[0],[4],[2]]
def aJf:=kd [] [[0,1],[1,3],[0,2],[0,1,3,5],[2],[2],[2,15],[2],[2,29],[2],[2,35],[2],[0,2]]
def aJg:=kd [] [[0,1,2,3],[3,7],[4,8],[5,16],[6,17],[7],[0,6],[0,1,2,3,7,8,16,22],[0,6],[0,1,2,3,7,8,16,38],[7],[0,2,8],[0,1,2,3,7,8,16,43],[0,2,7,50],[0,6],[0,2,8],[0,1,2,3,7,8,16,52],[0,2,8],[1,3,7,8,16,56],[6],[6],[1,8],[1,3,7,8,16,60],[0,6],[0,2,3,7,8,16,64],[1,8],[1,3,7,8,16,72],[1,8],[1,7,8,16,80],[1,83],[0,6],[0,2,8],[2,86],[0,6],[0,2,94],[0,6],[1]]
def aJh:=[[0,2],[2]]
def aJi:=[[0],[0,4],[0,4,5],[2],[0,4,11],[2],[0,17],[0,20],[2],[2]]
def aJj:=[[0,1],[0,1,6],[0,1,6,7],[4],[0,1,18],[4],[4]]
def aJk:=kd [] [[0,0,1,2,3],[4,9],[1,3,9,10],[4,21],[4],[4],[0,8]]
def aJl:=[[0],[2]]
def aJm:=[[1,3,5],[1,3,5,19],[6],[1,3,5,43],[6],[7],[6]]
def aJn:=[[],[0]]
def aJo:=[[],[0]]
def aJp:=[[0,1],[4]]
def aJq:=kd [] [[0,0,1],[2,17],[0,4],[0,0,1,5],[1,5,6],[3,27],[3,7],[1,6,7],[1,5,6],[2,40],[0,4],[0,0,5,8],[2,49],[2,9],[3,10],[3,60],[3],[0,5,9,11],[1,11,68],[0,4],[1]]
def aJr:=[[0,1],[4]]
def aJs:=[[0,1],[1,5],[5,12],[4],[4]]
def aJt:=[[0],[2]]
def aJu:=[[0],[2]]
def aJv:=[[0],[0,3],[2],[0,6],[2],[0,13],[2],[2]]
def aJw:=kd [] [[0,0,3],[2,5],[3,11],[3],[3,27],[3,30],[0,5],[0,0,3,5],[3],[0,4]]
def aJx:=[[0,1],[0,1,8],[0,1],[4]]
def aJy:=[[0,1],[0,1,12],[4],[4]]
def aJz:=kd [] [[0,0,1,2],[3,12],[0,6],[0,0,2,7],[3,18],[3],[3,24],[4,25],[0,6],[0,0,2,7,24,30],[0,6],[0,0,2,7,32],[3],[3,39],[0,6],[1]]
def aJA:=[[0],[0,3],[0,3,7],[0,3],[0,3,15],[2],[2]]
def aJB:=[[0],[3],[3,8],[2],[2]]
def aJC:=kd [] [[0,0,1],[2,5],[3,9],[3],[3,17],[0,4],[1]]
def aJD:=kd [] [[0,0,1],[2,5],[3,6],[4,13],[4],[4,7],[5],[5,8],[6,29],[6],[6],[4],[0,4]]
def aJE:=[[0],[2]]
def aJF:=[[1,2],[1,2,6],[2],[2]]
def aJG:=[[0],[3],[3,4],[2],[3,6],[2],[3,8],[3,8],[2],[3,11],[3,11],[3,11],[3,11],[3,11],[3,11],[2],[3,18],[2],[3,20],[3,20],[2],[3,23],[3,23],[3,23],[2],[27],[2],[2]]
def aJH:=kd [] [[0,0],[1,4],[2,5],[3,12],[3],[3,6],[4,7],[5,24],[5],[5,41],[0,2,3],[0,0,4,5,6,7],[3],[0,2,3]]
def aJI:=kd [] [[0,1],[1,6],[2,7],[3],[0,2,3],[0,1,6,10],[3],[3],[0,2,3],[0,1,6,14],[3],[3],[3],[3],[3],[3],[3],[0,2,3],[0,1,6,23],[3],[3],[3],[0,2,3],[0,1,6,28],[0,2,3],[0,1,6,30],[1,4],[0,4,36],[0,2,3],[2],[0,1,6,40],[3],[0,2,3],[0,1,6,43],[0,2,3],[0,1,6,45],[0,2,3],[0,1,6,47],[3],[0,2,3],[0,1,6,53],[0,2,3],[0,1,6,63],[0,2,3],[0,73],[0,2,3],[2]]
def aJJ:=[[1],[1,4],[1,4,5],[1,4,5],[2],[1,4,16],[2],[1,4,31],[2],[1,4,36],[2],[1,4,41],[2],[1,4,46],[2],[1,51],[2],[2]]
def aJK:=[[1],[1,4],[1,4,5],[1,4,5],[1,4,5],[1,4,5],[1,4,5],[1,4,5],[2],[1,4,20],[2],[1,4,31],[2],[1,4,42],[2],[1,4,53],[2],[1,4,64],[2],[1,4,74],[2],[1,84],[2],[2]]
def aJL:=[[0],[2]]
def aJM:=kd [] [[0,1,2,3,4],[4,12],[0,8],[0,1,2,3,4,18],[0,8],[0,1,2,3,4,9],[5,30],[5],[5,62],[0,8],[1]]
def aJN:=[[1,2],[1,2,18],[1,2],[4]]
def aJO:=kd [] [[0,0,2,3,9,30],[4,13,30],[0,2,3],[0,0,2,3,4,9,30],[5,17,18,19,30],[8,20,30],[4,5,6,9,17,18,19,30],[6,7,9,17,18,19,30],[5,7,9,17,18,19,28,30],[12],[12,37],[0,2,3],[0,0,2,3,4,5,7,9,17,18,19,28,30],[4,9,17,18,19,30],[9],[0,2,3]]
def aJP:=[[1,2],[1,2,4],[1,2,4,5],[2],[1,2,4,14],[1,2,4,14],[1,2,4,14],[2],[1,2,4,31],[1,2,4,31],[2],[1,2,4,41],[2],[1,2,4,50],[2],[1,2,4,59],[2],[1,2,4,68],[1,2,4,68],[2],[1,2,4,78],[2],[1,2,4,97],[2],[1,2,107],[2],[2]]
def aJQ:=[[0],[2]]
def aJR:=kd [] [[0,1,2],[2,3],[3,15],[4,16],[0,2,3],[0,1,2,3,15,20],[3],[3],[3],[0,2,3,42],[2],[0,1,2,3,15,51],[5],[0,2,3],[0,1,2,3,15,55],[0,2,3],[0,1,2,3,15,62],[0,2,3],[0,1,2,3,15,66],[5],[0,2,3],[0,1,2,3,15,71],[0,2,3],[0,1,2,3,15,75],[0,2,3],[0,1,2,3,15,87],[0,2,3],[0,1,2,3,90],[0,2,3],[1]]
def aJS:=kd [] [[0,1,2],[2,3],[3,15],[0,2,3],[0,1,2,3,15,17],[5],[0,2,3],[0,1,2,3,15,22],[3],[0,2,3,31],[2],[2],[0,1,2,3,15,36],[3],[0,2,3,50],[2],[2],[0,1,2,3,55],[0,2,3],[1]]
def aJT:=[[0],[2]]
def aJU:=[[0],[2]]
def aJV:=kd [] [[0,0,1,4],[1,4,5],[3,6],[2,6,23,24,25],[6,26],[3,8,23,24,25],[3,23,24,25],[6],[0,4]]
def aJW:=[[1,3,5],[3,5,7],[3,5,7,8],[3,5,7,8,20],[6],[3,5,7,24],[3,5,7,24,25],[6],[3,5,7,24,34],[6],[3,5,7,24,43],[6],[3,5,7,24,52],[6],[3,5,7,24,65],[6],[3,5,7,24,78],[3,5,7,9],[6],[3,5,7,24,102],[6],[3,5,7,24,116],[6],[3,5,7,132],[3,7,10],[3,7,10,146],[7,10],[7,10],[6],[6]]
def aJX:=[[0,1],[0,1,8],[0,1],[4]]
def aJY:=[[0,1],[0,1,10],[4],[4]]
def aJZ:=kd [] [[0,0,1,2],[3,12],[0,6],[0,0,2,7],[3,24],[3],[3,27],[0,6],[0,0,2,7,36],[3],[0,6]]
def aJ0:=[[0],[0,5,6],[0,5,6,7],[0,3,5,6],[0,5,6,14],[2],[0,5,6],[2]]
def aJ1:=[[0],[3],[3,8],[2],[2]]
def aJ2:=[[0,1],[4]]
def aJ3:=[[0],[2]]
def aJ4:=[[0],[2]]
def aJ5:=[[0],[2]]
def aJ6:=[[0],[2]]
def aJ7:=[[0],[2]]
def aJ8:=kd [] [[0,0],[0,3],[1,4],[2],[2],[2],[2],[2],[2],[2],[2],[2],[2],[2],[2],[2],[2],[2],[0,4],[0,2],[1]]
def aJ9:=[[2,3,4,5],[3,9],[8]]
def aKa:=[[1,2],[4]]
def aKb:=kd [] [[0,1,2],[2,5],[3,6],[4,11],[4],[4,15],[4],[4],[0,4]]
def aKc:=kd [] [[0,3,4,5],[3,7],[4,19],[4],[4],[4],[0,6],[0,3,4,5,7,52],[4],[0,6]]
def aKd:=[[0],[2]]
def aKe:=[[0],[2]]
def aKf:=[[0],[2]]
def aKg:=kd [] [[0,0,1],[2,7,8],[4,9],[2,5,7,8],[5,16],[0,4],[0,0,1,7,8],[0,4]]
def aKh:List (List (List Nat)):=[[],[],[],kp3,[],kp5,kp6,kp7,kp8,kp9,aUV,[],[],aUW,aUX,aUY,aUZ,aU0,aU1,aU2,aU3,aU4,aU5,aU6,aU7,aU8,aU9,aVa,aVb,aVc,aVd,aVe,aVf,aVg,aVh,aVi,aVj,aVk,aVl,aVm,aVn,aVo,aVp,[],[],aVq,aVr,aVs,aVt,aVu,aVv,aVw,aVx,aVy,aVz,aVA,aVB,aVC,aVD,aVE,aVF,aVG,aVH,aVI,aVJ,aVK,aVL,aVM,aVN,aVO,aVP,aVQ,aVR,aVS,aVT,aVU,aVV,aVW,aVX,aVY,aVZ,aV1,aV2,aV3,aV4,aV5,aV6,aV7,aV8,aV9,aWa,aWb,aWc,aWd,aWe,aWf,aWg,aWh,aWi,aWj,aIa,aIb,aIc,aId,aIe,aIf,aIg,aIh,aIi,aIj,aIk,aIl,aIm,aIn,aIo,aIp,aIq,aIr,aIs,aIt,aIu,aIv,aIw,aIx,aIy,aIz,aIA,aIB,aIC,aID,aIE,aIF,aIG,aIH,aII,aIJ,aIK,aIL,aIM,aIN,aIO,aIP,aIQ,aIR,aIS,aIT,aIU,aIV,aIW,aIX,aIY,aIZ,aI0,aI1,aI2,aI3,aI4,aI5,aI6,aI7,aI8,aI9,aJa,aJb,aJc,aJd,aJe,aJf,aJg,aJh,aJi,aJj,aJk,aJl,aJm,aJn,aJo,aJp,aJq,aJr,aJs,aJt,aJu,aJv,aJw,aJx,aJy,aJz,aJA,aJB,aJC,aJD,aJE,aJF,aJG,aJH,aJI,aJJ,aJK,aJL,aJM,aJN,aJO,aJP,aJQ,aJR,aJS,aJT,aJU,aJV,aJW,[],aJX,aJY,aJZ,aJ0,aJ1,aJ2,aJ3,aJ4,aJ5,aJ6,aJ7,aJ8,[],aJ9,aKa,aKb,aKc,[],aKd,aKe,aKf,aKg,[],[],[],[],[],[],[],[],[],[],[],[],[],[],[],[],[],[],[],[],[],[],[],[],[],[],[],[],[],[],[],[],[]]
def aKi(f:Nat):List Nat:=bif Nat.beq f 75 then[1] else[]
def aWk(f:Nat):List Nat:=([(3,[32]),(7,[26]),(8,[28,46,55,56,60,63,74,77]),(21,[15,20,27,32,37,42,47,52,57,62,67,72,77,82,86,93,97,99,101]),(32,[8,11,13,17,25,26,32]),(33,[16,21,26,34,45,50,55,60,65,67]),(43,[46]),(56,[10,22,28,38]),(57,[10,17,30,32,40]),(58,[8,16,27,31,32]),(59,[8,16,27,31,32]),(60,[15,25,35,43,47,50,58,79]),(61,[9,16,20,26,38,39]),(62,[9,16,25,31,43,44]),(63,[8,16,22,23]),(64,[9,17,22,34,35]),(65,[9,17,22,34,35]),(66,[8,27,37]),(67,[7,14,28,29]),(68,[12,16,18,30,36]),(70,[6,15]),(71,[10,14,24,27,29]),(72,[12,17,23,29,35,40,50,56,58,73,75,80]),(81,[12]),(83,[7]),(84,[10,11,18,23,29,32,35,36,44]),(85,[10,11,18,23,26,27,29,32,33,42]),(86,[15,18,20,22,24,29,33,34,47,51,53,60]),(87,[17,28,29,37,44,60,64,65,73]),(88,[8,21,24,25,31,34]),(89,[9,10,17,22,25,26,33]),(90,[8,9,12,15,16,18,25,30,36,42]),(91,[7,10,12,15,16,19,22,23,28]),(92,[10,14,18,22,26,30,34,36,39,41]),(127,[11]),(128,[8]),(131,[8,25,28]),(132,[9,16]),(134,[10,13,16,19,21]),(136,[5,8,18]),(144,[8]),(146,[11]),(147,[13,19,29,34,43,45,48]),(150,[9]),(151,[9,13,18]),(152,[18]),(153,[5,7,15,20,21]),(154,[8,9,14,29,35,36]),(184,[15,25,42])]:List (Nat×List Nat)).foldr (λx r=>bif Nat.beq f x.1 then x.2 else r) []
def aWl(f d:Nat):List Nat:=bif mem? d (aWk f) then[] else List.range 200
def aKj(f:Nat):List Nat:=bif Nat.beq f 52 then[3] else bif Nat.beq f 68 then[3] else[]
def aE7(f:Nat):List Nat:=bif Nat.beq f 14 then[34] else[]
noncomputable def TI:Adv:=⟨λf r=>(aKh.getD f []).getD r [],λf=>aKi f,aWl,λt=>(aKj t),λf d=>mem? d (aE7 f)⟩
theorem zaZ:(!true)=false:=rfl
theorem zba:∀n:Nat,n≤n:=Nat.le_refl
theorem zbb:∀{A B:Type}{l:List A}(f:A->B),(l.map f).length=l.length:=fun f=>List.length_map f
abbrev zaB:=au×Int×Bool×au
abbrev zaC:=Int×au×Int×Bool×au×au
abbrev zaD:=au×Int×Bool×au×au
abbrev zaE:=au×Int×Int×au×Int×Int×aI×aI
abbrev zaF:=au×Int×Int×au×Int×Int×aI×aI×au
abbrev zaG:=au×au×Int×Int×Bool×Bool×Bool×Bool×au×au
abbrev zaH:=au×au×Int×Int×Bool×Bool×Bool×Bool×au×au×au
abbrev zaI:=au×au×Int×Int×Int×Int×aI×aI×Int×Int×aI×aI
abbrev zaJ:=au×au×Int×Int×Int×Int×aI×aI×Int×Int×aI×aI×au
abbrev zaK:=au×Int×Bool×Int×Int×aI×aI×au×Bool×au
abbrev zaL:=au×Int×Bool×Bool×Bool×Int×Int×aI×aI×Bool×Int×Int×aI×aI×au×Bool×au
abbrev zaM:=au×Int×Bool×Bool×Bool×Int×Int×aI×aI×Bool×Int×Int×aI×aI×Bool×au×au
abbrev zaN:=au×au×Int×Int
abbrev zaO:=Int×Bool×au×Int×Bool×au×au
abbrev zaP:=Int×au×Int×Int×au
abbrev zaQ:=Bool×au×Int×Int×au
abbrev zaR:=Bool×au×Bool×au×Int×Bool×au
abbrev zaS:=au×Int×au×au
abbrev zaT:=au×Bool×au×Int×Bool×Bool×Bool×Int×Int×aI×aI×Bool×Int×Int×aI×aI×Bool×au
abbrev zaU:=Bool×au×au×Int×Bool×au
abbrev zaV:=Int×Int×aI×aI×au
abbrev zaW:=au×au×Int×Bool×Bool×Bool×Int×Int×aI×aI×Bool×Int×Int×aI×aI×Bool×au
abbrev zaX:=Bool×au×Int×Int×Int
abbrev zaY:=Int×Int×aI×aI×Bool×au×Bool×au×Int×Bool×au
abbrev zaa:=Bool->Bool->au->Int->Bool->au->Option zaY
abbrev zab:=Int->Bool->Bool->Bool->Bool->au->Int->Bool->au->Option zaR
abbrev zac:=au->au->au->Int->Int->Int->Int->Bool->Bool->Bool->Bool->Option (Bool)
abbrev zad:=au->Int->Bool->au->Option zaY
abbrev zae:=au->Bool->Int->Int->Bool->Bool->Bool->Bool->Option (au)
abbrev zaf:=Int->au->Int->Int->Option zaN
abbrev zag:=Int->au->Int->Bool->au->Option zaU
abbrev zah:=Int->Int->au->Int->Bool->au->Option zaU
abbrev zai:=au->au->au->au->Int->Int->Option (Bool)
abbrev zaj:=au->au->au->Int->Int->Int->Option (Bool)
abbrev zak:=Int->Int->aI->aI->au->Option (Int)
abbrev zal:=au->Int->Bool->au->Option zaR
abbrev zam:=au->au->au->Int->Int->aI->aI->au->Int->Int->Int->Bool->Bool->Bool->Bool->Option (Bool)
abbrev zan:=au->Bool->au->Option (au)
abbrev zao:=Bool->Bool->au->Int->Bool->au->Option zaU
abbrev zap:=Int->Int->aI->aI->au->au->Option (au)
abbrev zaq:=Int->Bool->Bool->Bool->Bool->Int->Int->au->Int->Bool->au->Option zaR
abbrev zar:=au->Int->Option (au)
abbrev zas:=au->Int->Option zaV
abbrev zat:=au->Option (au)
abbrev zau:=Int->au->Int->Bool->au->Option zaR
abbrev zav:=au->au->au->Int->Int->aI->aI->au->Int->Int->Int->Int->Option (Bool)
abbrev zaw:=Int->Int->Int->au->Int->Int->Option zaN
abbrev zax:=au->Bool->Int->aI->Int->au->Int->Option (au)
abbrev zay:=au->Bool->Int->Option (au)
abbrev zaz:=au->Bool->Int->Int->aI->aI->au->Int->Bool->Bool->Bool->Bool->Option (au)
abbrev zaA:=Nat->Int->Int->aI->aI->au->Option (Int)
noncomputable def X0:Ctx:=⟨Tryz.prog,TI,λf=>bif Nat.beq f 202 then some Prim.kQ else bif Nat.beq f 177 then some Prim.strings_Contains else none,λg=>bif Nat.beq g 0 then some Nu else bif Nat.beq g 2 then some Wq else bif Nat.beq g 1 then some FI else none,λg=>bif Nat.beq g 3 then true else false⟩
def fTa(S:dJ)(C:∀{R:Type},S.α->(S.ρ->Option R)->Option R)(K:List (FE X0):=[])(L:List (LE X0 S.f):=[])(hn:∀{R:Type} x (k:S.ρ->Option R),C x k=(C x some).bind k:=by intros;exact zbJ)
  (hE:∀{R:Type} x (k:List Row->List Cell->Option R),bodyC X0 (kt K) (lt L) S.f (S.p.enc x.1) (S.q.enc x.2) k=C x (λr=>k (S.enc r).1 (S.enc r).2):=by intros;kernel_rfl)
  (hL:loops (codeOf X0.P S.f)=L.map LE.c:=by kernel_rfl) (hd:apart (L.map LE.n)=true:=by kernel_rfl) (hp:X0.VO S.f=none:=by kernel_rfl):S.ok X0 λx=>C x some:=fnS C K L hn hE hL hd hp (λ_=>rfl)
abbrev ra:=λn a=>sg n a [] (ρ:=Bool) λr=>([[D.bool r]],[])
abbrev rb:=λn a=>sg n a [] (ρ:=au) λr=>([[D.sl true 1 r]],[])
abbrev rc:=λn a=>sg n a [] (ρ:=au) λr=>([[D.sl true 5 r]],[])
abbrev re:=λn a=>sg n a [] (ρ:=au×Bool) λr=>([[D.sl true 1 r.1],[D.bool r.2]],[])
abbrev rf:=λn a=>sg n a [] (ρ:=Int) λr=>([[D.int .i64 r]],[])
abbrev rg:=λn a=>sg n a [] (ρ:=Int×Int) λr=>([[D.int .i64 r.1],[D.int .i64 r.2]],[])
abbrev rh:=λn a=>sg n a [] (ρ:=Int×Bool×Bool×Bool×Bool) λr=>([[D.int .i64 r.1,D.bool r.2.1,D.bool r.2.2.1,D.bool r.2.2.2.1,D.bool r.2.2.2.2]],[])
abbrev rj:=λn a=>sg n a [] (ρ:=Int×aI×Int) λr=>([[D.int .i64 r.1,D.str r.2.1,D.int .i64 r.2.2]],[])
abbrev rk:=λn a=>sg n a [] (ρ:=au) λr=>([[D.sl true 3 r]],[])
abbrev rl:=λn a=>sg n a [] (ρ:=Int×Int) λr=>([[D.int .i64 r.1,D.int .i64 r.2]],[])
abbrev rm:=λn a=>sg n a [] (ρ:=Bool×Bool×Bool×Int×Int) λr=>([[D.bool r.1,D.bool r.2.1,D.bool r.2.2.1,D.int .i64 r.2.2.2.1,D.int .i64 r.2.2.2.2]],[])
abbrev rn:=λn a=>sg n a [] (ρ:=Int×Int×aI×aI×au) λr=>([[D.int .i64 r.1,D.int .i64 r.2.1,D.str r.2.2.1,D.str r.2.2.2.1,D.sl true 5 r.2.2.2.2]],[])
abbrev _root_.Prod.va{A B C D:Type _}(x:A×B×C×D):D:=x.2.2.2
abbrev _root_.Prod.wd{A B C D E F G H I:Type _}(x:A×B×C×D×E×F×G×H×I):I:=x.2.2.2.2.2.2.2.2
abbrev zbc(r:au×Int×Bool×au):=Cell.box 68 [V.d (D.sl false 3 r.1),V.d (D.int .i64 r.2.1),V.d (D.bool r.2.2.1),V.d (D.sl true 3 r.2.2.2)]
abbrev zbd(r:au×Int×Bool×au):=Cell.box 52 [V.d (D.sl false 3 r.1),V.d (D.int .i64 r.2.1),V.d (D.bool r.2.2.1),V.d (D.sl true 1 r.2.2.2)]
abbrev zbe{A:Type}(r:au×Int×Bool×A)(n:Nat):=Cell.box 52 [wB 3 r.1,iK r.2.1,jO r.2.2.1,V.own n 0]
abbrev zbf{A:Type}(r:au×Int×Bool×A)(n:Nat):=Cell.box 68 [wB 3 r.1,iK r.2.1,jO r.2.2.1,V.own n 0]
abbrev zbg:=λn a=>sg n a [cB 90 [pL false 1,pI,pI]] (ρ:=Int×au×Int×Int) λr=>([[D.int .i64 r.1]],[Cell.box 90 [V.d (D.sl false 1 r.2.1),V.d (D.int .i64 r.2.2.1),V.d (D.int .i64 r.2.2.2)]])
abbrev zbh:=λn a=>sg n a [cB 90 [pL false 1,pI,pI]] (ρ:=aI×au×Int×Int) λr=>([[D.str r.1]],[Cell.box 90 [V.d (D.sl false 1 r.2.1),V.d (D.int .i64 r.2.2.1),V.d (D.int .i64 r.2.2.2)]])
abbrev zbi:=λn a=>sg n a [] (ρ:=aI) λr=>([[D.str r]],[])
abbrev zbj:=λn a=>sg n a [cB 90 [pL false 1,pI,pI]] (ρ:=au×au×Int×Int) λr=>([[D.sl true 3 r.1]],[Cell.box 90 [V.d (D.sl false 1 r.2.1),V.d (D.int .i64 r.2.2.1),V.d (D.int .i64 r.2.2.2)]])
abbrev zbk:=λn a=>sg n a [cB 90 [pL false 1,pI,pI]] (ρ:=au×au×Int×Int) λr=>([[D.sl true 5 r.1]],[Cell.box 90 [V.d (D.sl false 1 r.2.1),V.d (D.int .i64 r.2.2.1),V.d (D.int .i64 r.2.2.2)]])
abbrev zbl:=λn a=>sg n a [cB 52 [pL false 3,pI,pB,pL true 1]] (ρ:=Int×Int×aI×aI×Bool×au×Bool×au×Int×Bool×au) λr=>([[D.int .i64 r.1,D.int .i64 r.2.1,D.str r.2.2.1,D.str r.2.2.2.1,D.sl r.2.2.2.2.1 5 r.2.2.2.2.2.1,D.bool r.2.2.2.2.2.2.1]],[zbd r.2.2.2.2.2.2.2])
abbrev zbm:=λn a=>sg n a [cB 52 [pL false 3,pI,pB,pL true 1]] (ρ:=Bool×au×Int×Bool×au) λr=>([[D.bool r.1]],[zbd r.2])
abbrev zbn:=λn a=>sg n a [cB 52 [pL false 3,pI,pB,pL true 1]] (ρ:=Bool×au×au×Int×Bool×au) λr=>([[D.sl r.1 5 r.2.1]],[zbd r.2.2])
abbrev zbo:=λn a=>sg n a [cB 52 [pL false 3,pI,pB,pL true 1]] (ρ:=aI×au×Int×Bool×au) λr=>([[D.str r.1]],[zbd r.2])
abbrev zbp:=λn a=>sg n a [cB 68 [pL false 3,pI,pB,pL true 3]] (ρ:=Bool×au×Bool×au×Int×Bool×au) λr=>([[D.sl r.1 5 r.2.1,D.bool r.2.2.1]],[zbc r.2.2.2])
abbrev zbq:=λn a=>sg n a [cB 68 [pL false 3,pI,pB,pL true 3]] (ρ:=Bool×au×Int×Bool×au) λr=>([[D.bool r.1]],[zbc r.2])
abbrev zbr:=[pI,pI,pS,pS,pL false 1]
abbrev zbs:=[pI,pB,pB,pB,pB]
abbrev zbt:=[pL false 3,pL false 5,pL false 1]
abbrev zbu:=(cA false true 0 1)
abbrev zbv:=[pP 100000 0,kF [pB,pB]]
abbrev zbw:=(cB 52 [pL false 3,pI,pB,pO 300003 0])
abbrev zbx:=(cB 57 [pI,pI,pS,pS,XZ 5,pB])
abbrev zby:=(cA false true 0 3)
abbrev zbz:=[pI,pI,pS,pS,pL false 5,pB]
abbrev zbA:=[pP 100000 0,kF zbs]
abbrev zbB:=(cA false false 0 5)
abbrev zbC:=[pL false 1,pI,pI]
abbrev zbD:=[pP 100000 0,pI]
abbrev zbE:=[cB 68 [pL false 3,pI,pB,pL true 3]]
abbrev zbF:=[pI,pI,pS,pS,pL false 5]
abbrev zbG:=[pL false 3,pI,pB,pO 300000 0]
abbrev zbH:=[pI,pI,pS,pS,pO 300002 0]
abbrev zbI{A B C D E F:Type}(f:A->B->C->D->E)(x:A×B×C×D×F):E:=f x.1 x.2.1 x.2.2.1 x.2.2.2.1
def zbK{R P:Type}{k:P->Option R}{n:Nat}{x:Row}{f:Int->Int->aI->aI->au->Option R}{g:Int->Int->aI->aI->au->Option P}(h:∀a b c d e,f a b c d e=(g a b c d e).bind k):qh n x f=(qh n x g).bind k:=by unfold qh;repeat' first|(with_reducible first|apply bU|apply vS|apply vT|apply vU|apply vV)|intro _|apply h
theorem zbJ{P:Prop}(h:P:=by repeat' first|(with_reducible first|apply bU|apply vS|apply vT|apply vU|apply vV|apply zbK)|intro _|apply bU|rfl):P:=h
abbrev S.Ug:=ra 5 [pL false 1]
abbrev S.DU:dJ:=sg 13 [pL false 1] [] (ρ:=au×Int×Int) λr=>([[D.sl false 1 r.1,D.int .i64 r.2.1,D.int .i64 r.2.2]],[])
abbrev S.qY:=zbg 114 [pP 100000 0]
abbrev S.bT:=zbg 46 zbD
abbrev S.kK:=zbh 119 [pP 100000 0,pL false 1]
abbrev S.DV:=zbh 115 [pP 100000 0]
abbrev S.DW:=zbh 116 [pP 100000 0]
abbrev S.DY:=zbh 117 [pP 100000 0]
abbrev S.mg:=zbh 118 [pP 100000 0]
abbrev S.qy:=rb 120 []
abbrev S.dL:=ra 76 [pI,pI,pI]
abbrev S.zl:=rb 175 []
abbrev S.Gg:=rb 176 []
abbrev S.qI:=zbi 121 [pI]
abbrev S.pR:dJ:=sg 47 [pP 100000 0] [cB 90 zbC] (ρ:=Int×aI×Int×au×Int×Int) λr=>([[D.int .i64 r.1,D.str r.2.1,D.int .i64 r.2.2.1]],[Cell.box 90 [V.d (D.sl false 1 r.2.2.2.1),V.d (D.int .i64 r.2.2.2.2.1),V.d (D.int .i64 r.2.2.2.2.2)]])
abbrev S.dD:=ra 78 [pI]
abbrev S.gZ:dJ:=sg 15 zbD [cB 90 zbC] (ρ:=Bool×au×Int×Int) λr=>([[D.bool r.1]],[Cell.box 90 [V.d (D.sl false 1 r.2.1),V.d (D.int .i64 r.2.2.1),V.d (D.int .i64 r.2.2.2)]])
abbrev S.zA:=zbj 112 zbD
abbrev S.BM:=zbk 170 [pP 100000 0]
abbrev S.uH:=rc 191 [pL false 5,pI]
abbrev S.dW:=rc 143 [kF zbr,pL false 1]
abbrev S.Vs:=zbk 171 zbD
abbrev S.YI:dJ:=sg 172 [pP 100000 0,pI,pI,pI] [cB 90 zbC] (ρ:=au×au×Int×Int) λr=>([[D.sl true 1 r.1]],[Cell.box 90 [V.d (D.sl false 1 r.2.1),V.d (D.int .i64 r.2.2.1),V.d (D.int .i64 r.2.2.2)]])
abbrev S.jV:=zbg 49 [pP 100000 0,pL false 1]
abbrev S.BN:=zbg 173 [pP 100000 0]
abbrev S.oV:=zbk 109 zbD
abbrev S.BO:=zbk 113 [pP 100000 0]
abbrev S.DZ:=re 195 [pL false 5]
abbrev S.wX:=ra 155 [pL false 5]
abbrev S.wY:=rf 93 [pL false 5]
abbrev S.jC:=rg 196 [kF zbr]
abbrev S.BP:=ra 223 [pI]
abbrev S.qA:=ra 145 [pI]
abbrev S.lW:=ra 197 [kF zbr]
abbrev S.uf:=ra 222 [pI]
abbrev S.wZ:=ra 220 [pI]
abbrev S.vH:=ra 221 [pI]
abbrev S.xE:=ra 188 [pS]
abbrev S.zB:=rf 190 [pL false 1,pS]
abbrev S.xF:=rf 189 [pS]
abbrev S.oD:=ra 142 [pS]
abbrev S.mD:=ra 141 [pS]
abbrev S.BQ:=ra 137 [pS]
abbrev S.jD:=rf 186 [pS,pI]
abbrev S.eu:=rf 185 [pS,pI]
abbrev S.FK:=rf 138 [pS,pI]
abbrev S.ug:=rf 187 [pS,pI,pI]
abbrev S.FM:=rf 139 [pS,pI]
abbrev S.FP:=rf 140 [pS,pI]
abbrev S.mP:=ra 77 [kF [pI,pS,pI]]
abbrev S.iL:=ra 198 [kF zbr]
abbrev S.dQ:=ra 156 [kF zbr]
abbrev S.nP:=ra 192 [pI]
abbrev S.kL:=ra 95 [pI]
abbrev S.FQ:=ra 199 [pI]
abbrev S.o9:=ra 157 [kF zbr,pI,pI]
abbrev S.FT:=ra 94 [pL false 5]
abbrev S.oW:=ra 35 [pL false 5]
abbrev S.fO:=rh 17 []
abbrev S.pz:=ra 25 [kF zbs]
abbrev S.qJ:=rf 194 [pI]
abbrev S.mQ:=rf 159 [kF zbr]
abbrev S.kM:=ra 101 [kF zbr,kF zbs]
abbrev S.lH:=rj 96 [kF zbr]
abbrev S.eY:=rj 48 [pI]
abbrev S.SY:=rk 227 [kF [pL false 5,pB],pL false 1]
abbrev S.Vt:=rk 225 [kF [pL false 5,pB],kF [pI,pS,pI],pL false 1,pI]
abbrev S.Uh:=rk 226 [kF [pL false 5,pB],pI]
abbrev S.kG:=rg 148 [pI]
abbrev S.dw:=rh 162 [kF zbr,pI,kF zbs]
abbrev S.Vu:=rk 228 [kF [pL false 5,pB],kF zbr,kF zbs]
abbrev S.S9:=rk 210 [kF [pL false 5,pB],pI,kF zbs]
abbrev S.nZ:=rk 174 [kF [pL false 5,pB],pI,kF zbs]
abbrev S.vI:=rk 111 [pL false 5]
abbrev S.vJ:=rk 110 [pL false 5,kF zbs]
abbrev S.FU:=zbj 45 [pP 100000 0]
abbrev S.oG:=zbj 14 [pP 100000 0]
abbrev S.vK:=rk 16 [pL false 1]
abbrev S.Gi:dJ:=sg 18 [pP 100000 0] [cB 90 zbC] (ρ:=Int×Bool×Bool×Bool×Bool×au×Int×Int) λr=>([[D.int .i64 r.1,D.bool r.2.1,D.bool r.2.2.1,D.bool r.2.2.2.1,D.bool r.2.2.2.2.1]],[Cell.box 90 [V.d (D.sl false 1 r.2.2.2.2.2.1),V.d (D.int .i64 r.2.2.2.2.2.2.1),V.d (D.int .i64 r.2.2.2.2.2.2.2)]])
abbrev S.qj:dJ:=sg 6 [pL false 1] [] (ρ:=au×Int×Bool×Bool×Bool×Bool) λr=>([[D.sl true 3 r.1],[D.int .i64 r.2.1,D.bool r.2.2.1,D.bool r.2.2.2.1,D.bool r.2.2.2.2.1,D.bool r.2.2.2.2.2]],[])
abbrev S.dM:=ra 50 [pI,pI,pI]
abbrev S.Je:=ra 19 [kF zbs]
abbrev S.strings_Contains:=ra 177 [pS,pS]
abbrev S.nU:=rf 213 [pS,pI]
abbrev S.xg:=ra 230 [pI]
abbrev S.iJ:=rf 212 [pS,pI]
abbrev S.FV:=rf 178 [pS,pI]
abbrev S.rQ:=rf 214 [pS,pI,pI]
abbrev S.FW:=rf 179 [pS,pI]
abbrev S.FX:=rf 180 [pS,pI]
abbrev S.uh:=ra 232 [pI]
abbrev S.vM:=ra 231 [pI]
abbrev S.xG:=ra 215 [pS]
abbrev S.slices_Index:=rf 233 [pL false 1,pS]
abbrev S.xH:=rf 216 [pS]
abbrev S.slices_Contains:=ra 217 [pL false 1,pS]
abbrev S.oH:=ra 182 [pS]
abbrev S.kN:=ra 181 [pS]
abbrev S.sG:=ra 218 [pI]
abbrev S.yL:=ra 219 [pI]
abbrev S.BR:=zbi 183 [pI]
abbrev S.lI:=ra 122 [kF [pI,pS,pI]]
abbrev S.kZ:=ra 123 [pI]
abbrev S.zC:=ra 51 [pL false 3]
abbrev S.yM:=ra 124 [pI]
abbrev S.yN:=ra 125 [pI]
abbrev S.FY:=rf 52 [pL false 3]
abbrev S.xk:=rf 22 [pL false 3,pI]
abbrev S.BU:=rl 20 [pL false 3]
abbrev S.aG:dJ:=sg 54 [pP 100000 0] [cB 52 [pL false 3,pI,pB,pL true 1]] (ρ:=Int×au×Int×Bool×au) λr=>([[D.int .i64 r.1]],[zbd r.2])
abbrev S.lQ:=ra 53 [pI]
abbrev S.iQ:=zbl 55 [pP 100000 0]
abbrev S.mF:=zbm 130 [pP 100000 0]
abbrev S.gJ:dJ:=sg 128 [pP 100000 0] [cB 52 [pL false 3,pI,pB,pL true 1]] (ρ:=au×Int×Bool×au) λr=>([],[zbd r])
abbrev S.NP:=zbn 184 zbv
abbrev S.fB:=zbm 127 zbD
abbrev S.zK:=zbn 131 zbD
abbrev S.iR:=zbo 135 [pP 100000 0]
abbrev S.dN:=zbo 132 [pP 100000 0]
abbrev S.mG:=ra 69 [pI]
abbrev S.BX:=zbl 136 [pP 100000 0]
abbrev S.iW:=zbl 72 [pP 100000 0]
abbrev S.fZ:=zbl 71 [pP 100000 0]
abbrev S.MV:=zbl 134 [pP 100000 0]
abbrev S.iT:=zbl 70 [pP 100000 0]
abbrev S.lq:=zbl 68 [pP 100000 0]
abbrev S.lY:dJ:=sg 129 [pI,kF zbz,kF zbz] [] (ρ:=Int×Int×aI×aI×Bool×au×Bool) λr=>([[D.int .i64 r.1,D.int .i64 r.2.1,D.str r.2.2.1,D.str r.2.2.2.1,D.sl r.2.2.2.2.1 5 r.2.2.2.2.2.1,D.bool r.2.2.2.2.2.2]],[])
abbrev S.mZ:=zbl 67 zbv
abbrev S.iq:=zbl 66 zbv
abbrev S.mV:=rf 133 [pI]
abbrev S.lu:=zbl 65 zbv
abbrev S.lC:=zbl 64 zbv
abbrev S.ny:=zbl 63 zbv
abbrev S.iY:=zbl 62 zbv
abbrev S.jk:=zbl 61 zbv
abbrev S.nI:=zbl 60 zbv
abbrev S.lD:=zbl 59 zbv
abbrev S.oI:=zbl 58 zbv
abbrev S.jP:=zbl 57 zbv
abbrev S.uj:=ra 126 [pI]
abbrev S.fU:=zbl 56 zbv
abbrev S.jR:=zbl 21 zbA
abbrev S.oJ:=rf 73 [kF zbF]
abbrev S.jS:=rf 74 [kF zbF]
abbrev S.BZ:=rl 23 [kF zbF]
abbrev S.qB:=rc 75 [kF zbF,pL true 5]
abbrev S.rU:=rc 24 [kF zbF]
abbrev S.oK:dJ:=sg 7 [pL false 3,kF zbs] [] (ρ:=au×Int×Int×Int) λr=>([[D.sl true 5 r.1],[D.int .i64 r.2.1],[D.int .i64 r.2.2.1,D.int .i64 r.2.2.2]],[])
abbrev S.um:=ra 26 [pL false 3]
abbrev S.gG:=ra 79 [pI]
abbrev S.iw:=ra 80 [pI]
abbrev S.zD:=rf 27 [pL false 3]
abbrev S.lS:=rl 28 [pL false 3,pI,pI]
abbrev S.iy:=ra 29 [pI]
abbrev S.aV:dJ:=sg 31 [pP 100000 0] zbE (ρ:=Int×au×Int×Bool×au) λr=>([[D.int .i64 r.1]],[zbc r.2])
abbrev S.kR:=ra 30 [pI]
abbrev S.bf:dJ:=sg 81 zbD zbE (ρ:=Int×aI×Int×au×Int×Bool×au) λr=>([[D.int .i64 r.1,D.str r.2.1,D.int .i64 r.2.2.1]],[zbc r.2.2.2])
abbrev S.bF:=rh 82 [kF zbs,pI]
abbrev S.Gj:dJ:=sg 193 [kF [pL false 5,pB]] [] (ρ:=Int×Int×aI×aI×Bool×au) λr=>([[D.int .i64 r.1,D.int .i64 r.2.1,D.str r.2.2.1,D.str r.2.2.2.1,D.sl r.2.2.2.2.1 1 r.2.2.2.2.2]],[])
abbrev S.zF:=ra 144 [kF [pL false 5,pB]]
abbrev S.bW:dJ:=sg 83 [kF zbr,pL false 1] [] (ρ:=Bool×au×Bool) λr=>([[D.sl r.1 5 r.2.1,D.bool r.2.2]],[])
abbrev S.Ui:=zbp 84 zbA
abbrev S.Xi:=zbp 85 zbA
abbrev S.zG:=zbq 146 [pP 100000 0]
abbrev S.jv:dJ:=sg 151 [pP 100000 0] zbE (ρ:=au×Int×Bool×au) λr=>([],[zbc r])
abbrev S.JO:dJ:=sg 147 [pP 100000 0,pI,pI] zbE (ρ:=Bool×au×au×Int×Bool×au) λr=>([[D.sl r.1 1 r.2.1]],[zbc r.2.2])
abbrev S.abj:=zbp 86 zbA
abbrev S.sZ:=rf 149 [pI]
abbrev S.kV:=zbq 150 [pP 100000 0,pI,kF zbs]
abbrev S.Vw:=zbp 87 [pP 100000 0,kF zbs,pI,pI]
abbrev S.U0:=zbp 89 zbA
abbrev S.Vx:=zbp 88 zbA
abbrev S.Xj:=zbp 90 zbA
abbrev S.xq:=zbp 152 zbD
abbrev S.Xk:=zbp 153 [pP 100000 0]
abbrev S.Xl:=zbp 154 zbD
abbrev S.Lu:=zbp 92 [pP 100000 0]
abbrev S.Vy:=zbp 91 zbA
abbrev S.fC:=zbp 33 zbA
abbrev S.ql:=zbp 32 zbA
abbrev S.zn:=rl 34 [pL false 5]
abbrev S.xI:dJ:=sg 8 [pL false 3,kF zbs] [] (ρ:=Bool×au×Int×Int×Int) λr=>([[D.sl r.1 5 r.2.1],[D.int .i64 r.2.2.1],[D.int .i64 r.2.2.2.1,D.int .i64 r.2.2.2.2]],[])
abbrev S.jc:=rk 36 [pL false 5,pI]
abbrev S.Gl:=ra 158 [pI]
abbrev S.zH:=rf 97 [pL false 3]
abbrev S.Cb:=ra 98 [pL false 3]
abbrev S.zL:=ra 99 [pL false 3,pI]
abbrev S.jK:=ra 100 [pL false 3]
abbrev S.rX:=rf 201 [kF zbt,pI]
abbrev S.JQ:=ra 200 [kF zbt,pL false 1,pI,pI]
abbrev S.Vz:=ra 160 [kF zbt,kF zbr,pI,pI,pI,pI]
abbrev S.Rt:=ra 161 [kF zbt,pI,pI,pI]
abbrev S.abk:=ra 163 [kF zbt,kF zbr,pI,pI,kF zbs]
abbrev S.Xm:=ra 164 [kF zbt,kF zbr,pI,pI,kF zbs]
abbrev S.VA:=ra 165 [kF zbt,pI,pI,pI,kF zbs]
abbrev S.Xn:=ra 102 [kF zbt,pI,pI,pI,kF zbs]
abbrev S.jW:=ra 37 [kF zbt,pI,pI,pI,kF zbs]
abbrev S.Cc:=ra 9 [pL false 3,pL false 5,kF zbs]
abbrev S.kQ:=re 202 [pL false 5]
abbrev S.Ce:=ra 166 [pL false 5]
abbrev S.iM:=ra 104 [pI]
abbrev S.jd:=rm 203 [kF zbr]
abbrev S.FZ:=ra 204 [pI]
abbrev S.Hy:=rm 205 [kF zbr]
abbrev S.Hz:=rm 206 [kF zbr]
abbrev S.ig:=ra 167 [kF zbr]
abbrev S.uo:=ra 207 [pI]
abbrev S.Nv:=ra 208 [pI]
abbrev S.zX:=ra 168 [kF zbr,pI,pI]
abbrev S.vN:=rn 209 [pL false 5,pI]
abbrev S.Jf:=rn 169 [pL false 5]
abbrev S.F5:=ra 103 [pL false 5]
abbrev S.F6:=ra 38 [pL false 5]
abbrev S.yO:=ra 40 [kF [pI,pS,pI]]
abbrev S.slices_IndexFunc:=rf 105 [pL false 3,avS 40 [] []]
abbrev S.slices_ContainsFunc:=ra 39 [pL false 3,avS 40 [] []]
abbrev S.MW:dJ:=sg 41 [pL false 3,kF zbs] [] (ρ:=au×Bool) λr=>([[D.sl true 5 r.1],[D.bool r.2]],[])
abbrev S.slices_Equal:=ra 108 [pL false 1,pL false 1]
abbrev S.wC:=ra 107 [kF zbr,kF zbr]
abbrev S.wE:=ra 106 [pL false 5,pL false 5,avS 107 [] []]
abbrev S.zI:=ra 42 [pL false 5,pL false 5]
abbrev S.Ci:=ra 10 [pL false 3,pL false 5,kF zbs]
abbrev S.zY:=ra 3 [pL false 1]
abbrev M.Xo(code:au)(k:Bool->Option R):=k (decide ((↑code.length:Int)>1048576))
def M.Ug code:=M.Xo code some
def C.Ug:=fTa S.Ug (λx=>M.Xo x.1.1)
def M.Bz(code:au)(s:Int×Int)(kn:Int×Int->Option R)(ke:Int×Int->Option R):Option R:=match s with
 |(h',i)=>bif decide (i<(↑code.length:Int)) then(bif decide (i<4000) then((idx code i).bind λa=>(dG IntKind.u8 a 0).bind λb=>kn (i64.wrap (↑(BitVec.ofInt 64 (i64.wrap (i64.wrap (i64.wrap (h' * 131)+i64.wrap b)+7)) &&& BitVec.ofInt 64 1073741823).toNat:Int),i64.wrap (i+1))) else ke (h',i)) else ke (h',i)
def M.GV code s:=M.Bz code s (λs=>some (Sum.inl s)) λt=>some (Sum.inr t)
def M.Qs code s:=dU (M.GV code) s
def F.Qs:LE X0 13:=le 3 (I5 [cu 0 (pL false 1),cu 3 pI,cu 4 pI] []) (λx=>(x.1.2.1,x.1.2.2.1)) (λx s=>((x.1.1,s.1,s.2,()),())) (λx=> .leaf (Int×Int) (λt=>(Ex.exit 0,⟨[(0,wB 1 x.1.1),(3,iK t.1),(4,iK t.2),(15,jO false)],[]⟩))) (λx=>M.Bz x.1.1) [] [] (by rintro _ _ ⟨_,_⟩ _ _<;>simp only[M.Bz,nb]<;>rfl)
abbrev M.Tc(code:au)(k:au×Int×Int->Option R):=(M.Qs code (i64.wrap (10101+(↑code.length:Int)),0)).bind λa=>k (code,0,a.1)
def M.DU code:=M.Tc code some
def C.DU:=fTa S.DU (λx=>M.Tc x.1.1) [] [F.Qs]
abbrev M.Qu(c:au)(c1 c2:Int)(k:Int×au×Int×Int->Option R):=cond (decide (c1<(↑c.length:Int))) ((idx c c1).bind λa=>(dG IntKind.u8 a 0).bind λb=>k (i64.wrap (↑(BitVec.ofInt 64 (i64.wrap (i64.wrap (↑(BitVec.ofInt 64 (i64.wrap (↑(BitVec.ofInt 64 ((i64.wrap (i64.wrap (c2 * 6364136223846793005)+1442695040888963407)).fdiv 8589934592) ^^^ BitVec.ofInt 64 ((i64.wrap (i64.wrap (c2 * 6364136223846793005)+1442695040888963407)).fdiv 35184372088832)).toNat:Int)) &&& BitVec.ofInt 64 255).toNat:Int)+i64.wrap b)) &&& BitVec.ofInt 64 255).toNat:Int),c,i64.wrap (c1+1),i64.wrap (i64.wrap (c2 * 6364136223846793005)+1442695040888963407))) (k (i64.wrap (↑(BitVec.ofInt 64 (i64.wrap (↑(BitVec.ofInt 64 ((i64.wrap (i64.wrap (c2 * 6364136223846793005)+1442695040888963407)).fdiv 8589934592) ^^^ BitVec.ofInt 64 ((i64.wrap (i64.wrap (c2 * 6364136223846793005)+1442695040888963407)).fdiv 35184372088832)).toNat:Int)) &&& BitVec.ofInt 64 255).toNat:Int),c,c1,i64.wrap (i64.wrap (c2 * 6364136223846793005)+1442695040888963407)))
def M.qY c c1 c2:=M.Qu c c1 c2 some
def C.qY:=fTa S.qY (λx=>M.Qu x.2.1.1 x.2.1.2.1 x.2.1.2.2.1)
abbrev M.Ey(n':Int)(c:au)(c1 c2:Int)(k:Int×au×Int×Int->Option R):=cond (decide (n'<=0)) (k (0,c,c1,c2)) (cond (decide (n'<=256)) ((M.qY c c1 c2).bind λd=>cond (!decide (n'=0)) (k (d.1.tmod n',d.2.1,d.2.2.1,d.2.2.2)) none) ((M.qY c c1 c2).bind λe=>(M.qY e.2.1 e.2.2.1 e.2.2.2).bind λf=>(M.qY f.2.1 f.2.2.1 f.2.2.2).bind λb=>(M.qY b.2.1 b.2.2.1 b.2.2.2).bind λa=>cond (!decide (n'=0)) (k ((i64.wrap (i64.wrap (i64.wrap (i64.wrap (e.1 * 16777216)+i64.wrap (f.1 * 65536))+i64.wrap (b.1 * 256))+a.1)).tmod n',a.2.1,a.2.2.1,a.2.2.2)) none))
def M.bT n' c c1 c2:=M.Ey n' c c1 c2 some
def C.bT:=fTa S.bT (λx=>M.Ey x.1.2.1 x.2.1.1 x.2.1.2.1 x.2.1.2.2.1) [fe C.qY]
abbrev M.Qv(list c:au)(c1 c2:Int)(k:aI×au×Int×Int->Option R):=(M.bT ((↑list.length:Int)) c c1 c2).bind λa=>(idx list a.1).bind λb=>(cStr b 0).bind λd=>k (d,a.2.1,a.2.2.1,a.2.2.2)
def M.kK list c c1 c2:=M.Qv list c c1 c2 some
def C.kK:=fTa S.kK (λx=>M.Qv x.1.2.1 x.2.1.1 x.2.1.2.1 x.2.1.2.2.1) [fe C.bT]
abbrev M.Td(c:au)(c1 c2:Int)(k:aI×au×Int×Int->Option R):=(M.kK ([[D.str [48]],[D.str [49]],[D.str [52,50]],[D.str [51,46,53]],[D.str [46,53]],[D.str [55,46]],[D.str [49,101,51]],[D.str [50,69,45,52]],[D.str [49,48,46,50,53,101,43,49]]]) c c1 c2).bind λa=>k (a.1,a.2.1,a.2.2.1,a.2.2.2)
def M.DV c c1 c2:=M.Td c c1 c2 some
def C.DV:=fTa S.DV (λx=>M.Td x.2.1.1 x.2.1.2.1 x.2.1.2.2.1) [fe C.kK]
abbrev M.Tf(c:au)(c1 c2:Int)(k:aI×au×Int×Int->Option R):=(M.kK ([[D.str [34,34]],[D.str [34,97,34]],[D.str [34,120,32,121,34]],[D.str [34,113,92,34,113,34]],[D.str [34,92,110,34]],[D.str [34,35,110,111,34]],[D.str [34,47,34]]]) c c1 c2).bind λa=>k (a.1,a.2.1,a.2.2.1,a.2.2.2)
def M.DW c c1 c2:=M.Tf c c1 c2 some
def C.DW:=fTa S.DW (λx=>M.Tf x.2.1.1 x.2.1.2.1 x.2.1.2.2.1) [fe C.kK]
abbrev M.Ti(c:au)(c1 c2:Int)(k:aI×au×Int×Int->Option R):=(M.kK ([[D.str [47,97,47]],[D.str [47,94,120,43,36,47]],[D.str [47,97,92,47,98,47]],[D.str [47,61,47]],[D.str [47,32,47]],[D.str [47,91,48,45,57,93,47]]]) c c1 c2).bind λa=>k (a.1,a.2.1,a.2.2.1,a.2.2.2)
def M.DY c c1 c2:=M.Ti c c1 c2 some
def C.DY:=fTa S.DY (λx=>M.Ti x.2.1.1 x.2.1.2.1 x.2.1.2.2.1) [fe C.kK]
abbrev M.Qw(c:au)(c1 c2:Int)(k:aI×au×Int×Int->Option R):=(M.kK ([[D.str [120]],[D.str [121]],[D.str [110]],[D.str [105]],[D.str [97,114,114]],[D.str [78,82]],[D.str [70,83]],[D.str [116,111,116,97,108]],[D.str [97,49]],[D.str [95,116]],[D.str [99,111,117,110,116]]]) c c1 c2).bind λa=>k (a.1,a.2.1,a.2.2.1,a.2.2.2)
def M.mg c c1 c2:=M.Qw c c1 c2 some
def C.mg:=fTa S.mg (λx=>M.Qw x.2.1.1 x.2.1.2.1 x.2.1.2.2.1) [fe C.kK]
abbrev M.Ib(k:au->Option R):=k ([[D.str [97,116,97,110,50]],[D.str [99,108,111,115,101]],[D.str [99,111,115]],[D.str [101,120,112]],[D.str [103,115,117,98]],[D.str [105,110,100,101,120]],[D.str [105,110,116]],[D.str [108,101,110,103,116,104]],[D.str [108,111,103]],[D.str [109,97,116,99,104]],[D.str [114,97,110,100]],[D.str [115,105,110]],[D.str [115,112,108,105,116]],[D.str [115,112,114,105,110,116,102]],[D.str [115,113,114,116]],[D.str [115,114,97,110,100]],[D.str [115,117,98]],[D.str [115,117,98,115,116,114]],[D.str [115,121,115,116,101,109]],[D.str [116,111,108,111,119,101,114]],[D.str [116,111,117,112,112,101,114]]])
def M.qy:Option (au):=M.Ib some
def C.qy:=fTa S.qy (λx=>M.Ib)
abbrev M.Cj(x' low high:Int)(k:Bool->Option R):=cond (decide (x'>=low)) (k (decide (x'<=high))) (k false)
def M.dL x' low high:=M.Cj x' low high some
def C.dL:=fTa S.dL (λx=>M.Cj x.1.1 x.1.2.1 x.1.2.2.1)
abbrev M.Uj(k:au->Option R):=k ([[D.str [66,69,71,73,78]],[D.str [69,78,68]],[D.str [102,117,110,99,116,105,111,110]],[D.str [105,102]],[D.str [101,108,115,101]],[D.str [119,104,105,108,101]],[D.str [102,111,114]],[D.str [100,111]],[D.str [98,114,101,97,107]],[D.str [99,111,110,116,105,110,117,101]],[D.str [110,101,120,116]],[D.str [101,120,105,116]],[D.str [114,101,116,117,114,110]],[D.str [100,101,108,101,116,101]],[D.str [105,110]],[D.str [112,114,105,110,116]],[D.str [112,114,105,110,116,102]]])
def M.zl:Option (au):=M.Uj some
def C.zl:=fTa S.zl (λx=>M.Uj)
abbrev M.Uk(k:au->Option R):=k ([[D.str [123]],[D.str [125]],[D.str [40]],[D.str [41]],[D.str [91]],[D.str [93]],[D.str [44]],[D.str [59]],[D.str [43,61]],[D.str [45,61]],[D.str [42,61]],[D.str [47,61]],[D.str [37,61]],[D.str [94,61]],[D.str [124,124]],[D.str [38,38]],[D.str [33,126]],[D.str [61,61]],[D.str [60,61]],[D.str [62,61]],[D.str [33,61]],[D.str [43,43]],[D.str [45,45]],[D.str [62,62]],[D.str [61]],[D.str [43]],[D.str [45]],[D.str [42]],[D.str [47]],[D.str [37]],[D.str [94]],[D.str [33]],[D.str [62]],[D.str [60]],[D.str [124]],[D.str [63]],[D.str [58]],[D.str [126]],[D.str [36]]])
def M.Gg:Option (au):=M.Uk some
def C.Gg:=fTa S.Gg (λx=>M.Uk)
abbrev M.NQ(kind:Int)(k:aI->Option R):=cond (kind==1) (k [10]) ((M.dL kind 10 26).bind λc=>cond c (M.zl.bind λa=>(idx a (i64.wrap (kind - 10))).bind λe=>(a[(i64.wrap (kind - 10)).toNat]?).bind λf=>(cStr f 0).bind λg=>k g) ((M.dL kind 30 68).bind λh=>cond h (M.Gg.bind λb=>(idx b (i64.wrap (kind - 30))).bind λj=>(b[(i64.wrap (kind - 30)).toNat]?).bind λd=>(cStr d 0).bind λi=>k i) (k [])))
def M.qI kind:=M.NQ kind some
def C.qI:=fTa S.qI (λx=>M.NQ x.1.1) [fe C.dL,fe C.zl,fe C.Gg]
abbrev M.NR(c:au)(c1 c2:Int)(k:Int×aI×Int×au×Int×Int->Option R):=(M.bT 10 c c1 c2).bind λa=>cond (a.1==0) ((M.DV a.2.1 a.2.2.1 a.2.2.2).bind λf=>k (3,f.1,0,f.2.1,f.2.2.1,f.2.2.2)) (cond (a.1==1) ((M.DW a.2.1 a.2.2.1 a.2.2.2).bind λj=>k (4,j.1,0,j.2.1,j.2.2.1,j.2.2.2)) (cond (a.1==2) ((M.DY a.2.1 a.2.2.1 a.2.2.2).bind λh=>k (5,h.1,0,h.2.1,h.2.2.1,h.2.2.2)) (cond (a.1==3) ((M.mg a.2.1 a.2.2.1 a.2.2.2).bind λe=>k (6,e.1,0,e.2.1,e.2.2.1,e.2.2.2)) (cond (a.1==4) ((M.mg a.2.1 a.2.2.1 a.2.2.2).bind λg=>k (6,g.1,0,g.2.1,g.2.2.1,g.2.2.2)) (cond (a.1==5) (M.qy.bind λm=>(M.kK m a.2.1 a.2.2.1 a.2.2.2).bind λi=>k (8,i.1,0,i.2.1,i.2.2.1,i.2.2.2)) (cond (a.1==6) ((M.bT 17 a.2.1 a.2.2.1 a.2.2.2).bind λb=>(M.qI (i64.wrap (10+b.1))).bind λn=>k (i64.wrap (10+b.1),n,0,b.2.1,b.2.2.1,b.2.2.2)) ((M.bT 39 a.2.1 a.2.2.1 a.2.2.2).bind λd=>(M.qI (i64.wrap (30+d.1))).bind λl=>k (i64.wrap (30+d.1),l,0,d.2.1,d.2.2.1,d.2.2.2))))))))
def M.pR c c1 c2:=M.NR c c1 c2 some
def C.pR:=fTa S.pR (λx=>M.NR x.2.1.1 x.2.1.2.1 x.2.1.2.2.1) [fe C.bT,fe C.DV,fe C.DW,fe C.DY,fe C.mg,fe C.qy,fe C.kK,fe C.qI]
abbrev M.zZ(kind:Int)(k:Bool->Option R):=cond (kind==3) (k true) (cond (kind==4) (k true) (cond (kind==5) (k true) (cond (kind==6) (k true) (cond (kind==8) (k true) (cond (kind==33) (k true) (cond (kind==35) (k true) (cond (kind==51) (k true) (cond (kind==52) (k true) (k false)))))))))
def M.dD kind:=M.zZ kind some
def C.dD:=fTa S.dD (λx=>M.zZ x.1.1)
abbrev M.Qx(n':Int)(c:au)(c1 c2:Int)(k:Bool×au×Int×Int->Option R):=(M.bT n' c c1 c2).bind λa=>k (a.1==0,a.2.1,a.2.2.1,a.2.2.2)
def M.gZ n' c c1 c2:=M.Qx n' c c1 c2 some
def C.gZ:=fTa S.gZ (λx=>M.Qx x.1.2.1 x.2.1.1 x.2.1.2.1 x.2.1.2.2.1) [fe C.bT]
abbrev M.iG(x':au)(kn:Int×au×Int×Int×au->Option R)(n':Int)(Sr:Int×aI×Int×au×Int×Int):=cond (((x'.length+1) * 32).ble 140737488355328) (cond ((x'.length+1).ble 140737488355328) (kn (i64.wrap (n' - 1),Sr.2.2.2.1,Sr.2.2.2.2.1,Sr.2.2.2.2.2,x'++[[D.int .i64 1,D.str [10],D.int .i64 0]])) none) none
abbrev M.uI(r51:Bool×au×Int×Int)(x':au)(kn:Int×au×Int×Int×au->Option R)(n':Int)(Sr:Int×aI×Int×au×Int×Int):=cond r51.1 ((M.kK ([[D.str [35]],[D.str [35,32,97]],[D.str [35,34,120]]]) r51.2.1 r51.2.2.1 r51.2.2.2).bind λa=>cond (((x'.length+[[D.int .i64 2,D.str a.1,D.int .i64 0]].length) * 32).ble 140737488355328) (cond ((x'.length+[[D.int .i64 2,D.str a.1,D.int .i64 0]].length).ble 140737488355328) (cond ((((x'++[[D.int .i64 2,D.str a.1,D.int .i64 0]]).length+1) * 32).ble 140737488355328) (cond (((x'++[[D.int .i64 2,D.str a.1,D.int .i64 0]]).length+1).ble 140737488355328) (kn (i64.wrap (n' - 1),a.2.1,a.2.2.1,a.2.2.2,x'++[[D.int .i64 2,D.str a.1,D.int .i64 0]]++[[D.int .i64 1,D.str [10],D.int .i64 0]])) none) none) none) none) (cond (((x'.length+[[D.int .i64 Sr.1,D.str Sr.2.1,D.int .i64 Sr.2.2.1]].length) * 32).ble 140737488355328) (cond ((x'.length+[[D.int .i64 Sr.1,D.str Sr.2.1,D.int .i64 Sr.2.2.1]].length).ble 140737488355328) (kn (i64.wrap (n' - 1),r51.2.1,r51.2.2.1,r51.2.2.2,x'++[[D.int .i64 Sr.1,D.str Sr.2.1,D.int .i64 Sr.2.2.1]])) none) none)
abbrev M.fF(Sr:Int×aI×Int×au×Int×Int)(x':au)(kn:Int×au×Int×Int×au->Option R)(n':Int):=cond (Sr.1==6) ((M.gZ 4 Sr.2.2.2.1 Sr.2.2.2.2.1 Sr.2.2.2.2.2).bind λa=>cond a.1 (cond (((x'.length+[[D.int .i64 7,D.str Sr.2.1,D.int .i64 Sr.2.2.1]].length) * 32).ble 140737488355328) (cond ((x'.length+[[D.int .i64 7,D.str Sr.2.1,D.int .i64 Sr.2.2.1]].length).ble 140737488355328) (cond ((((x'++[[D.int .i64 7,D.str Sr.2.1,D.int .i64 Sr.2.2.1]]).length+1) * 32).ble 140737488355328) (cond (((x'++[[D.int .i64 7,D.str Sr.2.1,D.int .i64 Sr.2.2.1]]).length+1).ble 140737488355328) (kn (i64.wrap (n' - 1),a.2.1,a.2.2.1,a.2.2.2,x'++[[D.int .i64 7,D.str Sr.2.1,D.int .i64 Sr.2.2.1]]++[[D.int .i64 32,D.str [40],D.int .i64 0]])) none) none) none) none) ((M.gZ 20 a.2.1 a.2.2.1 a.2.2.2).bind λc=>M.uI c x' kn n' Sr)) ((M.gZ 20 Sr.2.2.2.1 Sr.2.2.2.2.1 Sr.2.2.2.2.2).bind λb=>M.uI b x' kn n' Sr)
def M.Aa(s:Int×au×Int×Int×au)(kn:Int×au×Int×Int×au->Option R)(ke:Int×au×Int×Int×au->Option R):Option R:=match s with
 |(n',v,v1,v2,x')=>bif decide (n'>0) then(bif decide ((↑x'.length:Int)>0) then((idx x' (i64.wrap ((↑x'.length:Int) - 1))).bind λo=>(x'[(i64.wrap ((↑x'.length:Int) - 1)).toNat]?).bind λi=>(dG .i64 i 0).bind λc=>(M.pR v v1 v2).bind λb=>bif b.1==5 then((M.dD c).bind λg=>bif g then(M.iG x' kn n' b) else bif b.1==58 then((M.dD c).bind λd=>bif !d then(M.iG x' kn n' b) else M.fF b x' kn n') else bif b.1==41 then((M.dD c).bind λh=>bif !h then(M.iG x' kn n' b) else M.fF b x' kn n') else M.fF b x' kn n') else bif b.1==58 then((M.dD c).bind λn=>bif !n then(M.iG x' kn n' b) else M.fF b x' kn n') else bif b.1==41 then((M.dD c).bind λf=>bif !f then(M.iG x' kn n' b) else M.fF b x' kn n') else M.fF b x' kn n') else (M.pR v v1 v2).bind λa=>bif a.1==5 then((M.dD 0).bind λk=>bif k then(M.iG x' kn n' a) else bif a.1==58 then((M.dD 0).bind λl=>bif !l then(M.iG x' kn n' a) else M.fF a x' kn n') else bif a.1==41 then((M.dD 0).bind λe=>bif !e then(M.iG x' kn n' a) else M.fF a x' kn n') else M.fF a x' kn n') else bif a.1==58 then((M.dD 0).bind λj=>bif !j then(M.iG x' kn n' a) else M.fF a x' kn n') else bif a.1==41 then((M.dD 0).bind λm=>bif !m then(M.iG x' kn n' a) else M.fF a x' kn n') else M.fF a x' kn n') else ke (n',v,v1,v2,x')
def M.Gm s:=M.Aa s (λs=>some (Sum.inl s)) λt=>some (Sum.inr t)
def M.wF s:=dU (M.Gm) s
def F.wF:LE X0 112:=le 3 (I5 [cu 0 (pP 100000 0),cu 5 (pO 300000 0),cu 6 pI] [cu 100000 (cB 90 zbC),cu 300000 zby]) (λx=>(x.1.2.2.1,x.2.1.1,x.2.1.2.1,x.2.1.2.2.1,x.2.2.1)) (λx s=>(((),(),s.1,()),((s.2.1,s.2.2.1,s.va.1,()),s.va.2,()))) (λx=> .leaf zaP (λt=>(Ex.exit 0,⟨[(0,V.ptr 100000 0),(5,V.own 300000 0),(6,iK t.1),(15,jO false)],[(100000,Cell.box 90 [wB 1 t.2.1,iK t.2.2.1,iK t.va.1]),(300000,Cell.arr false true 0 3 t.va.2)]⟩))) (λx=>M.Aa) [fe C.pR,fe C.dD,fe C.gZ,fe C.kK] [] (by rintro _ _ ⟨_,_,_,_,_⟩ _ _<;>unfold M.Aa M.fF M.uI M.iG<;>exact zbJ)
abbrev M.LC(most:Int)(c:au)(c1 c2:Int)(k:au×au×Int×Int->Option R):=(M.bT (i64.wrap (most+1)) c c1 c2).bind λf=>(M.wF (f.1,f.2.1,f.2.2.1,f.2.2.2,[])).bind λa=>cond (decide ((↑a.2.2.2.2.length:Int)>0)) ((M.gZ 10 a.2.1 a.2.2.1 a.2.2.2.1).bind λe=>cond e.1 ((M.bT ((↑a.2.2.2.2.length:Int)) e.2.1 e.2.2.1 e.2.2.2).bind λd=>(M.pR d.2.1 d.2.2.1 d.2.2.2).bind λb=>(idx a.2.2.2.2 d.1).bind λh=>a.2.2.2.2[d.1.toNat]?.bind λg=>cond (aj (a.2.2.2.2.set d.1.toNat (splice g 0 [D.int .i64 b.1,D.str b.2.1,D.int .i64 b.2.2.1]))) (k (a.2.2.2.2.set d.1.toNat (splice g 0 [D.int .i64 b.1,D.str b.2.1,D.int .i64 b.2.2.1]),b.2.2.2.1,b.2.2.2.2.1,b.2.2.2.2.2)) none) (cond (aj a.2.2.2.2) (k (a.2.2.2.2,e.2.1,e.2.2.1,e.2.2.2)) none)) (cond (aj a.2.2.2.2) (k (a.2.2.2.2,a.2.1,a.2.2.1,a.2.2.2.1)) none)
def M.zA most c c1 c2:=M.LC most c c1 c2 some
def C.zA:=fTa S.zA (λx=>M.LC x.1.2.1 x.2.1.1 x.2.1.2.1 x.2.1.2.2.1) [fe C.bT,fe C.gZ,fe C.pR] [F.wF]
abbrev M.Qy(c:au)(c1 c2:Int)(k:au×au×Int×Int->Option R):=(M.bT 7 c c1 c2).bind λa=>cond (a.1==0) ((M.DV a.2.1 a.2.2.1 a.2.2.2).bind λg=>k ([[D.int .i64 2,D.int .i64 0,D.str g.1,D.str [],D.sl true 1 []]],g.2.1,g.2.2.1,g.2.2.2)) (cond (a.1==1) ((M.DW a.2.1 a.2.2.1 a.2.2.2).bind λd=>k ([[D.int .i64 3,D.int .i64 0,D.str d.1,D.str [],D.sl true 1 []]],d.2.1,d.2.2.1,d.2.2.2)) (cond (a.1==2) ((M.gZ 2 a.2.1 a.2.2.1 a.2.2.2).bind λb=>cond b.1 ((M.DY b.2.1 b.2.2.1 b.2.2.2).bind λf=>k ([[D.int .i64 4,D.int .i64 0,D.str f.1,D.str [],D.sl true 1 []]],f.2.1,f.2.2.1,f.2.2.2)) ((M.mg b.2.1 b.2.2.1 b.2.2.2).bind λh=>k ([[D.int .i64 1,D.int .i64 0,D.str h.1,D.str [],D.sl true 1 []]],h.2.1,h.2.2.1,h.2.2.2))) ((M.mg a.2.1 a.2.2.1 a.2.2.2).bind λe=>k ([[D.int .i64 1,D.int .i64 0,D.str e.1,D.str [],D.sl true 1 []]],e.2.1,e.2.2.1,e.2.2.2))))
def M.BM c c1 c2:=M.Qy c c1 c2 some
def C.BM:=fTa S.BM (λx=>M.Qy x.2.1.1 x.2.1.2.1 x.2.1.2.2.1) [fe C.bT,fe C.DV,fe C.DW,fe C.gZ,fe C.DY,fe C.mg]
def M.uJ(l:au)(by' i:Int)(x':au)(jl kW:Int)(nT oO:aI)(s:Int×au)(kn:Int×au->Option R)(ke:Int×au->Option R):Option R:=match s with
 |(k',rY)=>(idx l i).bind λc=>(cSl 1 c 4).bind λb=>bif decide (k'<(↑b.length:Int)) then((idx l i).bind λf=>(cSl 1 f 4).bind λe=>(idx e k').bind λd=>(dG .i64 d 0).bind λa=>sW rY [[D.int .i64 (i64.wrap (a+by'))]] 8 λg=>kn (i64.wrap (k'+1),g)) else ke (k',rY)
def M.uK l by' i x' jl kW nT oO s:=M.uJ l by' i x' jl kW nT oO s (λs=>some (Sum.inl s)) λt=>some (Sum.inr t)
def M.GX l by' i x' jl kW nT oO s:=dU (M.uK l by' i x' jl kW nT oO) s
def F.GX:LE X0 191:=le 8 (I5 [cu 0 (pL false 5),cu 1 pI,cu 5 (pO 300000 0),cu 6 pI,cu 7 (pP 300001 0),cu 8 pI] [cu 300000 zbB,cu 300001 (cB 87 zbH),cu 300002 zbu]) (λx=>(x.1.va.2.2.1,x.va.1)) (λx s=>((x.1.1,x.1.2.1,(),x.1.va.1,(),s.1,()),(x.2.1,(x.2.2.1.1,x.2.2.1.2.1,x.2.2.1.2.2.1,x.2.2.1.va.1,(),()),s.2,()))) (λx=> .leaf (Int×au) (λt=>(Ex.exit 2,⟨[(0,wB 5 x.1.1),(1,iK x.1.2.1),(5,V.own 300000 0),(6,iK x.1.va.1),(7,V.ptr 300001 0),(8,iK t.1),(29,jO false)],[(300000,Cell.arr false false 0 5 x.2.1),(300001,Cell.box 87 [iK x.2.2.1.1,iK x.2.2.1.2.1,KI x.2.2.1.2.2.1,KI x.2.2.1.va.1,V.own 300002 0]),(300002,Cell.arr false true 0 1 t.2)]⟩))) (λx=>zbI (M.uJ x.1.1 x.1.2.1 x.1.va.1 x.2.1) x.2.2.1) [] [] (by rintro _ _ ⟨_,_⟩ _ _<;>simp only[zbI,sW,M.uJ,nb]<;>rfl)
def M.uM(l:au)(by':Int)(s:Int×au)(kn:Int×au->Option R)(ke:Int×au->Option R):Option R:=match s with
 |(i,x')=>bif decide (i<(↑l.length:Int)) then((idx l i).bind λb=>qh 1 b λn144 n145 aKo aKp _=>((M.GX l by' i x' n144 n145 aKo aKp (0,[])).bind λa=>bif aj a.2 then(sW x' [[D.int .i64 n144,D.int .i64 n145,D.str aKo,D.str aKp,D.sl true 1 a.2]] 72 λc=>kn (i64.wrap (i+1),c)) else none)) else ke (i,x')
def M.uN l by' s:=M.uM l by' s (λs=>some (Sum.inl s)) λt=>some (Sum.inr t)
def M.GY l by' s:=dU (M.uN l by') s
def F.GY:LE X0 191:=le 3 (I5 [cu 0 (pL false 5),cu 1 pI,cu 5 (pO 300000 0),cu 6 pI] [cu 300000 zbB]) (λx=>(x.1.va.1,x.2.1)) (λx s=>((x.1.1,x.1.2.1,(),s.1,()),(s.2,()))) (λx=> .leaf (Int×au) (λt=>(Ex.exit 0,⟨[(0,wB 5 x.1.1),(1,iK x.1.2.1),(5,V.own 300000 0),(6,iK t.1),(13,jO false)],[(300000,Cell.arr false false 0 5 t.2)]⟩))) (λx=>M.uM x.1.1 x.1.2.1) [] [F.GX] (by rintro _ _ ⟨_,_⟩ _ _<;>simp only[sW,qh,M.uM,nb]<;>rfl)
abbrev M.Jg(l:au)(by':Int)(k:au->Option R):=(M.GY l by' (0,[])).bind λa=>k a.2
def M.uH l by':=M.Jg l by' some
def C.uH:=fTa S.uH (λx=>M.Jg x.1.1 x.1.2.1) [] [F.GY]
def M.wG(parts:au)(x' jl:Int)(kW nT:aI)(s:Int×au×au)(kn:Int×au×au->Option R)(ke:Int×au×au->Option R):Option R:=match s with
 |(k',oO,rY)=>bif decide (k'<(↑parts.length:Int)) then((idx parts k').bind λb=>(cSl 5 b 0).bind λc=>(M.uH c ((↑oO.length:Int))).bind λa=>sW oO a 72 λd=>sW rY [[D.int .i64 (i64.wrap ((↑d.length:Int) - 1))]] 8 λe=>kn (i64.wrap (k'+1),d,e)) else ke (k',oO,rY)
def M.wH parts x' jl kW nT s:=M.wG parts x' jl kW nT s (λs=>some (Sum.inl s)) λt=>some (Sum.inr t)
def M.Ac parts x' jl kW nT s:=dU (M.wH parts x' jl kW nT) s
def F.Ac:LE X0 143:=le 4 (I5 [cu 1 (pL false 1),cu 2 (pP 300000 0),cu 5 (pO 300001 0),cu 6 pI] [cu 300000 (cB 87 zbH),cu 300001 zbB,cu 300002 zbu]) (λx=>(x.1.va.1,x.2.2.1,x.va.1)) (λx s=>((x.1.1,(),(),s.1,()),((x.2.1.1,x.2.1.2.1,x.2.1.2.2.1,x.2.1.va.1,(),()),s.2.1,s.2.2,()))) (λx=> .leaf (Int×au×au) (λt=>(Ex.exit 0,⟨[(1,wB 1 x.1.1),(2,V.ptr 300000 0),(5,V.own 300001 0),(6,iK t.1),(13,jO false)],[(300000,Cell.box 87 [iK x.2.1.1,iK x.2.1.2.1,KI x.2.1.2.2.1,KI x.2.1.va.1,V.own 300002 0]),(300001,Cell.arr false false 0 5 t.2.1),(300002,Cell.arr false true 0 1 t.2.2)]⟩))) (λx=>zbI (M.wG x.1.1) x.2.1) [fe C.uH] [] (by rintro _ _ ⟨_,_,_⟩ _ _<;>simp only[zbI,sW,M.wG,nb]<;>rfl)
abbrev M.KX(n' kC:Int)(lZ pX:aI)(qG parts:au)(k:au->Option R):=(M.Ac parts n' kC lZ pX (0,[],[])).bind λa=>cond (aj a.2.2) (sW a.2.1 [[D.int .i64 n',D.int .i64 kC,D.str lZ,D.str pX,D.sl true 1 a.2.2]] 72 λb=>k b) none
def M.dW n' kC lZ pX qG parts:=M.KX n' kC lZ pX qG parts some
def C.dW:=fTa S.dW (λx=>M.KX x.1.1.1 x.1.1.2.1 x.1.1.2.2.1 x.1.1.va.1 x.1.1.va.2.1 x.1.2.1) [] [F.Ac]
def M.BA(bJ:zaf)(deep:Int)(c:au)(c1 c2:Int)(k:au×au×Int×Int->Option R):=(M.bT 4 c c1 c2).bind λa=>cond (a.1==0) ((M.mg a.2.1 a.2.2.1 a.2.2.2).bind λf=>(bJ (i64.wrap (deep - 1)) f.2.1 f.2.2.1 f.2.2.2).bind λb=>(M.dW 5 0 f.1 [] [] (aF [[D.sl true 5 b.1]])).bind λh=>cond ([[D.sl true 5 h]].all lU) (k (h,b.2.1,b.2.2.1,b.2.2.2)) none) (cond (a.1==1) ((bJ (i64.wrap (deep - 2)) a.2.1 a.2.2.1 a.2.2.2).bind λe=>(M.dW 6 0 [] [] [] (aF [[D.sl true 5 e.1]])).bind λg=>cond ([[D.sl true 5 g]].all lU) (k (g,e.2.1,e.2.2.1,e.2.2.2)) none) ((M.mg a.2.1 a.2.2.1 a.2.2.2).bind λd=>k ([[D.int .i64 1,D.int .i64 0,D.str d.1,D.str [],D.sl true 1 []]],d.2.1,d.2.2.1,d.2.2.2)))
def C.adK{bJ:zaf}(D5:S.oV.ok X0 λx=>bJ x.1.2.1 x.2.1.1 x.2.1.2.1 x.2.1.2.2.1):S.Vs.ok X0 λx=>M.BA bJ x.1.2.1 x.2.1.1 x.2.1.2.1 x.2.1.2.2.1 some:=fnS (λx=>M.BA bJ x.1.2.1 x.2.1.1 x.2.1.2.1 x.2.1.2.2.1) [fe C.bT,fe C.mg,fe D5,fe C.dW] [] (by intros;simp only[M.BA,nb]<;>rfl)
def M.JR(bJ:zaf)(deep:Int)(s:Int×au×Int×Int×au)(kn:Int×au×Int×Int×au->Option R)(ke:Int×au×Int×Int×au->Option R):Option R:=match s with
 |(n',v,v1,v2,x')=>bif decide (n'>0) then((bJ deep v v1 v2).bind λa=>sW x' [[D.sl true 5 a.1]] 24 λb=>kn (i64.wrap (n' - 1),a.2.1,a.2.2.1,a.2.2.2,b)) else ke (n',v,v1,v2,x')
def M.P5 bJ deep s:=M.JR bJ deep s (λs=>some (Sum.inl s)) λt=>some (Sum.inr t)
def M.NS bJ deep s:=dU (M.P5 bJ deep) s
def F.NS{bJ:zaf}(D5:S.oV.ok X0 λx=>bJ x.1.2.1 x.2.1.1 x.2.1.2.1 x.2.1.2.2.1):LE X0 172:=le 3 (I5 [cu 0 (pP 100000 0),cu 3 pI,cu 9 (pO 300000 0),cu 10 pI] [cu 100000 (cB 90 zbC),cu 300000 (cA false false 0 1)]) (λx=>(x.1.va.1,x.2.1.1,x.2.1.2.1,x.2.1.2.2.1,x.2.2.1)) (λx s=>(((),x.1.2.1,(),s.1,()),((s.2.1,s.2.2.1,s.va.1,()),s.va.2,()))) (λx=> .leaf zaP (λt=>(Ex.exit 0,⟨[(0,V.ptr 100000 0),(3,iK x.1.2.1),(9,V.own 300000 0),(10,iK t.1),(21,jO false)],[(100000,Cell.box 90 [wB 1 t.2.1,iK t.2.2.1,iK t.va.1]),(300000,Cell.arr false false 0 1 t.va.2)]⟩))) (λx=>M.JR bJ x.1.2.1) [fe D5] [] (by rintro _ _ ⟨_,_,_,_,_⟩ _ _<;>simp only[sW,M.JR,nb]<;>rfl)
def M.HY(bJ:zaf)(least most deep:Int)(c:au)(c1 c2:Int)(k:au×au×Int×Int->Option R):=(M.bT (i64.wrap (i64.wrap (most - least)+1)) c c1 c2).bind λa=>(M.NS bJ deep (i64.wrap (least+a.1),a.2.1,a.2.2.1,a.2.2.2,[])).bind λb=>k (b.2.2.2.2,b.2.1,b.2.2.1,b.2.2.2.1)
def C.ahd{bJ:zaf}(D5:S.oV.ok X0 λx=>bJ x.1.2.1 x.2.1.1 x.2.1.2.1 x.2.1.2.2.1):S.YI.ok X0 λx=>M.HY bJ x.1.2.1 x.1.2.2.1 x.1.va.1 x.2.1.1 x.2.1.2.1 x.2.1.2.2.1 some:=fnS (λx=>M.HY bJ x.1.2.1 x.1.2.2.1 x.1.va.1 x.2.1.1 x.2.1.2.1 x.2.1.2.2.1) [fe C.bT] [F.NS D5] (by intros;simp only[M.HY,nb]<;>rfl)
abbrev M.JU(list c:au)(c1 c2:Int)(k:Int×au×Int×Int->Option R):=(M.bT ((↑list.length:Int)) c c1 c2).bind λa=>(idx list a.1).bind λd=>(dG .i64 d 0).bind λb=>k (b,a.2.1,a.2.2.1,a.2.2.2)
def M.jV list c c1 c2:=M.JU list c c1 c2 some
def C.jV:=fTa S.jV (λx=>M.JU x.1.2.1 x.2.1.1 x.2.1.2.1 x.2.1.2.2.1) [fe C.bT]
abbrev M.NT(c:au)(c1 c2:Int)(k:Int×au×Int×Int->Option R):=(M.jV ([[D.int .i64 60],[D.int .i64 57],[D.int .i64 58],[D.int .i64 59],[D.int .i64 55],[D.int .i64 56],[D.int .i64 56],[D.int .i64 99],[D.int .i64 99],[D.int .i64 99],[D.int .i64 63],[D.int .i64 48],[D.int .i64 47],[D.int .i64 50],[D.int .i64 62],[D.int .i64 62],[D.int .i64 49],[D.int .i64 67],[D.int .i64 46],[D.int .i64 45],[D.int .i64 44]]) c c1 c2).bind λa=>k (a.1,a.2.1,a.2.2.1,a.2.2.2)
def M.BN c c1 c2:=M.NT c c1 c2 some
def C.BN:=fTa S.BN (λx=>M.NT x.2.1.1 x.2.1.2.1 x.2.1.2.2.1) [fe C.jV]
abbrev M.Jh(xJ:Int×au×Int×Int)(bJ:zaf)(deep:Int)(k:au×au×Int×Int->Option R):=(M.jV ([[D.int .i64 56],[D.int .i64 55],[D.int .i64 61]]) xJ.2.1 xJ.2.2.1 xJ.2.2.2).bind λa=>(bJ (i64.wrap (deep - 1)) a.2.1 a.2.2.1 a.2.2.2).bind λb=>(M.dW 11 a.1 [] [] [] (aF [[D.sl true 5 b.1]])).bind λc=>cond ([[D.sl true 5 c]].all lU) (k (c,b.2)) none
def M.D6(qZ:zaf)(bJ:zaf)(yP:zaw)(deep:Int)(c:au)(c1 c2:Int)(k:au×au×Int×Int->Option R):=cond (decide (deep<=0)) ((M.BM c c1 c2).bind λq=>k (q)) ((M.bT 2 c c1 c2).bind λb=>(M.bT 16 b.2.1 b.2.2.1 b.2.2.2).bind λa=>cond (a.1==0) ((M.BM a.2.1 a.2.2.1 a.2.2.2).bind λp=>k (p)) (cond (a.1==1) ((qZ deep a.2.1 a.2.2.1 a.2.2.2).bind λe=>k (e)) (cond (a.1==2) ((bJ (i64.wrap (deep - 1)) a.2.1 a.2.2.1 a.2.2.2).bind λm=>(M.dW 6 0 [] [] [] (aF [[D.sl true 5 m.1]])).bind λz=>cond ([[D.sl true 5 z]].all lU) (k (z,m.2)) none) (cond (a.1==3) ((M.mg a.2.1 a.2.2.1 a.2.2.2).bind λn=>(yP 0 3 (i64.wrap (deep - 1)) n.2.1 n.2.2.1 n.2.2.2).bind λu=>(M.dW 7 0 n.1 [] [] (aF u.1)).bind λG=>cond ([[D.sl true 5 G]].all lU) (k (G,u.2)) none) (cond (a.1==4) ((M.kK ([[D.str [108,101,110,103,116,104]],[D.str [115,117,98,115,116,114]],[D.str [105,110,100,101,120]],[D.str [105,110,116]],[D.str [116,111,117,112,112,101,114]]]) a.2.1 a.2.2.1 a.2.2.2).bind λd=>(yP 0 3 (i64.wrap (deep - 2)) d.2.1 d.2.2.1 d.2.2.2).bind λi=>(M.dW 8 0 d.1 [] [] (aF i.1)).bind λy=>cond ([[D.sl true 5 y]].all lU) (k (y,i.2)) none) (cond (a.1==5) ((qZ (i64.wrap (deep - 1)) a.2.1 a.2.2.1 a.2.2.2).bind λj=>(M.dW 9 (i64.wrap (51+b.1)) [] [] [] (aF [[D.sl true 5 j.1]])).bind λF=>cond ([[D.sl true 5 F]].all lU) (k (F,j.2)) none) (cond (a.1==6) ((qZ (i64.wrap (deep - 1)) a.2.1 a.2.2.1 a.2.2.2).bind λo=>(M.dW 10 (i64.wrap (51+b.1)) [] [] [] (aF [[D.sl true 5 o.1]])).bind λC=>cond ([[D.sl true 5 C]].all lU) (k (C,o.2)) none) (cond (a.1==7) (M.Jh a bJ deep k) (cond (a.1==8) (M.Jh a bJ deep k) (cond (a.1==9) ((M.mg a.2.1 a.2.2.1 a.2.2.2).bind λv=>(yP 1 2 (i64.wrap (deep - 1)) v.2.1 v.2.2.1 v.2.2.2).bind λw=>(M.dW 13 0 v.1 [] [] (aF w.1)).bind λE=>cond ([[D.sl true 5 E]].all lU) (k (E,w.2)) none) (cond (a.1==10) ((bJ (i64.wrap (deep - 1)) a.2.1 a.2.2.1 a.2.2.2).bind λf=>(bJ (i64.wrap (deep - 1)) f.2.1 f.2.2.1 f.2.2.2).bind λh=>(bJ (i64.wrap (deep - 1)) h.2.1 h.2.2.1 h.2.2.2).bind λg=>(M.dW 14 0 [] [] [] (aF [[D.sl true 5 f.1],[D.sl true 5 h.1],[D.sl true 5 g.1]])).bind λx=>cond ([[D.sl true 5 x]].all lU) (k (x,g.2)) none) (cond (a.1==11) ((M.jV ([[D.int .i64 54],[D.int .i64 38],[D.int .i64 43]]) a.2.1 a.2.2.1 a.2.2.2).bind λs=>(qZ (i64.wrap (deep - 1)) s.2.1 s.2.2.1 s.2.2.2).bind λI=>(bJ (i64.wrap (deep - 1)) I.2.1 I.2.2.1 I.2.2.2).bind λH=>(M.dW 15 s.1 [] [] [] (aF [[D.sl true 5 I.1],[D.sl true 5 H.1]])).bind λA=>cond ([[D.sl true 5 A]].all lU) (k (A,H.2)) none) ((M.BN a.2.1 a.2.2.1 a.2.2.2).bind λt=>(bJ (i64.wrap (deep - 1)) t.2.1 t.2.2.1 t.2.2.2).bind λl=>(bJ (i64.wrap (deep - 1)) l.2.1 l.2.2.1 l.2.2.2).bind λr=>(M.dW 12 t.1 [] [] [] (aF [[D.sl true 5 l.1],[D.sl true 5 r.1]])).bind λB=>cond ([[D.sl true 5 B]].all lU) (k (B,r.2)) none)))))))))))))
def C.ahe{qZ:zaf}{bJ:zaf}{yP:zaw}(afm:S.Vs.ok X0 λx=>qZ x.1.2.1 x.2.1.1 x.2.1.2.1 x.2.1.2.2.1)(D5:S.oV.ok X0 λx=>bJ x.1.2.1 x.2.1.1 x.2.1.2.1 x.2.1.2.2.1)(ajm:S.YI.ok X0 λx=>yP x.1.2.1 x.1.2.2.1 x.1.va.1 x.2.1.1 x.2.1.2.1 x.2.1.2.2.1):S.oV.ok X0 λx=>M.D6 qZ bJ yP x.1.2.1 x.2.1.1 x.2.1.2.1 x.2.1.2.2.1 some:=fnS (λx=>M.D6 qZ bJ yP x.1.2.1 x.2.1.1 x.2.1.2.1 x.2.1.2.2.1) [fe C.BM,fe C.bT,fe afm,fe D5,fe C.dW,fe C.mg,fe ajm,fe C.kK,fe C.jV,fe C.BN] [] (by intros;simp only[M.D6,M.Jh,nb]<;>rfl)
def M.D7:Nat->(zaf)×(zaf)×(zaw):=Nat.rec (λ_ _ _ _=>none,λ_ _ _ _=>none,λ_ _ _ _ _ _=>none) λ_ qz=>(λdeep c c1 c2=>M.D6 qz.2.1 qz.1 qz.2.2 deep c c1 c2 some,λdeep c c1 c2=>M.BA qz.1 deep c c1 c2 some,λleast most deep c c1 c2=>M.HY qz.1 least most deep c c1 c2 some)
def M.rV n:=(M.D7 n).1
def M.LD n:=(M.D7 n).2.1
def M.Qz n:=(M.D7 n).2.2
def M.aat(n:Nat):M.rV (n+1)=λdeep c c1 c2=>M.D6 (M.LD n) (M.rV n) (M.Qz n) deep c c1 c2 some:=rfl
def M.afn(n:Nat):M.LD (n+1)=λdeep c c1 c2=>M.BA (M.rV n) deep c c1 c2 some:=rfl
def M.ajn(n:Nat):M.Qz (n+1)=λleast most deep c c1 c2=>M.HY (M.rV n) least most deep c c1 c2 some:=rfl
def M.oV deep c c1 c2:=lim λn=>M.rV n deep c c1 c2
def C.D7:∀n,(S.oV.ok X0 λx=>M.rV n x.1.2.1 x.2.1.1 x.2.1.2.1 x.2.1.2.2.1)/\(S.Vs.ok X0 λx=>M.LD n x.1.2.1 x.2.1.1 x.2.1.2.1 x.2.1.2.2.1)/\(S.YI.ok X0 λx=>M.Qz n x.1.2.1 x.1.2.2.1 x.1.va.1 x.2.1.1 x.2.1.2.1 x.2.1.2.2.1)
 |0=>⟨dJ.zero,dJ.zero,dJ.zero⟩
 |n+1=>have h:=C.D7 n;⟨C.ahe h.2.1 h.1 h.2.2,C.adK h.1,C.ahd h.1⟩
def C.oV:S.oV.ok X0 λx=>M.oV x.1.2.1 x.2.1.1 x.2.1.2.1 x.2.1.2.2.1:=dJ.lim λn=>(C.D7 n).1
def M.ahf{n:Nat}{deep:Int}{c:au}{c1 c2:Int}{r:au×au×Int×Int}(h:M.rV n deep c c1 c2=some r):M.oV deep c c1 c2=some r:=dJ.sF (λn=>(C.D7 n).1) (by intro a b h;simp[S.oV,sg] at h;first|exact h|simp[Prod.ext_iff,h]) (x:=(((),deep,()),((c,c1,c2,()),()))) h
def M.Ez(s:(au×Int×Int)⊕zaQ)(kn:(au×Int×Int)⊕zaQ->Option R)(ke:au×Int×Int×au->Option R):Option R:=match s with
 | .inl (v,v1,v2)=>(M.bT 4 v v1 v2).bind λc=>((M.oV (i64.wrap (1+c.1)) c.2.1 c.2.2.1 c.2.2.2).bind λb=>bif decide ((↑b.1.length:Int)<=60) then(ke (b.2.1,b.2.2.1,b.2.2.2,b.1)) else kn (.inr (false,b.2.1,b.2.2.1,b.2.2.2,b.1)))
 | .inr (v11,v,v1,v2,x')=>(M.bT 4 v v1 v2).bind λd=>(M.oV (i64.wrap (1+d.1)) d.2.1 d.2.2.1 d.2.2.2).bind λa=>bif decide ((↑a.1.length:Int)<=60) then(ke (a.2.1,a.2.2.1,a.2.2.2,a.1)) else kn (.inr (false,a.2.1,a.2.2.1,a.2.2.2,a.1))
def M.EC s:=M.Ez s (λs=>some (Sum.inl s)) λt=>some (Sum.inr t)
def M.NU s:=dU (M.EC) s
def F.NU:LE X0 113:=le 1 (pOr (I5 [cu 0 (pP 100000 0)] [cu 100000 (cB 90 zbC)]) (I5 [cu 0 (pP 100000 0),cu 3 (pO 300000 0),cu 11 pB] [cu 100000 (cB 90 zbC),cu 300000 zbB])) (σ:=(au×Int×Int)⊕zaQ) (λx=>(match x with| .inl x=> .inl ((x.2.1.1,x.2.1.2.1,x.2.1.2.2.1))| .inr x=> .inr ((x.1.2.2.1,x.2.1.1,x.2.1.2.1,x.2.1.2.2.1,x.2.2.1)))) (λx s=>(match s with| .inl s=> .inl ((((),()),((s.1,s.2.1,s.2.2,()),())))| .inr s=> .inr ((((),(),s.1,()),((s.2.1,s.2.2.1,s.va.1,()),s.va.2,()))))) (λx=> .leaf (au×Int×Int×au) (λt=>(Ex.ret,⟨[(2,V.own 300000 0)],[(100000,Cell.box 90 [wB 1 t.1,iK t.2.1,iK t.2.2.1]),(300000,Cell.arr false false 0 5 t.va)]⟩))) (λx=>M.Ez) [fe C.bT,fe C.oV] [] (by rintro _ _ (⟨_,_,_⟩|⟨_,_,_,_,_⟩) _ _<;>unfold M.Ez<;>exact zbJ) (hE:=by intro _ _ s _;rcases s with s|s<;>kernel_rfl)
abbrev M.QA(c:au)(c1 c2:Int)(k:au×au×Int×Int->Option R):=(M.NU (.inl (c,c1,c2))).bind λa=>k (a.2.2.2,a.1,a.2.1,a.2.2.1)
def M.BO c c1 c2:=M.QA c c1 c2 some
def C.BO:=fTa S.BO (λx=>M.QA x.2.1.1 x.2.1.2.1 x.2.1.2.2.1) [] [F.NU]
def M.Ad(l:au)(i:Int)(x':au)(s:Int×Int)(kn:Int×Int->Option R)(ke:(Unit)⊕(Int×Int)->Option R):Option R:=match s with
 |(at',k')=>bif decide (k'>=0) then((idx l i).bind λd=>(cSl 1 d 4).bind λf=>(idx f k').bind λc=>(dG .i64 c 0).bind λb=>bif b !=i64.wrap (at' - 1) then(ke (.inl ())) else bif at'==0 then(ke (.inl ())) else (idx x' (i64.wrap (at' - 1))).bind λg=>(x'[(i64.wrap (at' - 1)).toNat]?).bind λe=>(dG .i64 e 0).bind λa=>kn (a,i64.wrap (k' - 1))) else ke (.inr (at',k'))
def M.Gn l i x' s:=M.Ad l i x' s (λs=>some (Sum.inl s)) λt=>some (Sum.inr t)
def M.wI l i x' s:=dU (M.Gn l i x') s
def F.wI:LE X0 195:=le 7 (I5 [cu 0 (pL false 5),cu 4 (pO 300000 0),cu 5 pI,cu 6 pI,cu 7 pI] [cu 300000 zbu]) (λx=>(x.1.va.1,x.1.va.2.1)) (λx s=>((x.1.1,(),x.1.2.2.1,s.1,s.2,()),(x.2.1,()))) (λx=> .sum (.leaf (Unit) (λt=>(Ex.ret,⟨[(2,V.own 300000 0),(3,jO false)],[(300000,Cell.arr false true 0 1 [])]⟩))) (.leaf (Int×Int) (λt=>(Ex.exit 2,⟨[(0,wB 5 x.1.1),(4,V.own 300000 0),(5,iK x.1.2.2.1),(6,iK t.1),(7,iK t.2),(24,jO false)],[(300000,Cell.arr false true 0 1 x.2.1)]⟩)))) (λx=>M.Ad x.1.1 x.1.2.2.1 x.2.1) [] [] (by rintro _ _ ⟨_,_⟩ _ _<;>simp only[M.Ad,nb]<;>rfl)
def M.Ae(l:au)(s:Int×au)(kn:Int×au->Option R)(ke:(Unit)⊕(Int×au)->Option R):Option R:=match s with
 |(i,x')=>bif decide (i<(↑l.length:Int)) then((idx l i).bind λa=>(cSl 1 a 4).bind λd=>(M.wI l i x' (i,i64.wrap ((↑d.length:Int) - 1))).bind λe=>kT e (λf=>ke (.inl ())) λb=>letE b λc=>sW x' [[D.int .i64 c.1]] 8 λg=>kn (i64.wrap (i+1),g)) else ke (.inr (i,x'))
def M.Gp l s:=M.Ae l s (λs=>some (Sum.inl s)) λt=>some (Sum.inr t)
def M.wJ l s:=dU (M.Gp l) s
def F.wJ:LE X0 195:=le 3 (I5 [cu 0 (pL false 5),cu 4 (pO 300000 0),cu 5 pI] [cu 300000 zbu]) (λx=>(x.1.2.2.1,x.2.1)) (λx s=>((x.1.1,(),s.1,()),(s.2,()))) (λx=> .sum (.leaf (Unit) (λt=>(Ex.ret,⟨[(2,V.own 300000 0),(3,jO false)],[(300000,Cell.arr false true 0 1 [])]⟩))) (.leaf (Int×au) (λt=>(Ex.exit 0,⟨[(0,wB 5 x.1.1),(4,V.own 300000 0),(5,iK t.1),(12,jO false)],[(300000,Cell.arr false true 0 1 t.2)]⟩)))) (λx=>M.Ae x.1.1) [] [F.wI] (by rintro _ _ ⟨_,_⟩ _ _<;>simp only[sW,M.Ae,nb]<;>rfl)
abbrev M.LG(l:au)(k:au×Bool->Option R):=(M.wJ l (0,[])).bind λb=>kT b (λd=>k ([],false)) λc=>letE c λa=>cond (aj a.2) (k (a.2,true)) none
def M.DZ l:=M.LG l some
def C.DZ:=fTa S.DZ (λx=>M.LG x.1.1) [] [F.wJ]
abbrev M.NV(l:au)(k:Bool->Option R):=(M.dL ((↑l.length:Int)) 1 400).bind λd=>cond (!d) (k false) ((M.DZ l).bind λa=>cond a.2 ((idx a.1 (i64.wrap ((↑l.length:Int) - 1))).bind λe=>(a.1[(i64.wrap ((↑l.length:Int) - 1)).toNat]?).bind λc=>(dG .i64 c 0).bind λb=>k (b==0)) (k false))
def M.wX l:=M.NV l some
def C.wX:=fTa S.wX (λx=>M.NV x.1.1) [fe C.dL,fe C.DZ]
def M.Cm(l:au)(i:Int)(x':au)(s:Int×Int)(kn:Int×Int->Option R)(ke:Int×Int->Option R):Option R:=match s with
 |(n',k')=>(idx l i).bind λd=>(cSl 1 d 4).bind λh=>bif decide (k'<(↑h.length:Int)) then((idx l i).bind λg=>(cSl 1 g 4).bind λf=>(idx f k').bind λc=>(dG .i64 c 0).bind λa=>(idx x' a).bind λj=>x'[a.toNat]?.bind λe=>(dG .i64 e 0).bind λb=>kn (bif decide (n'<i64.wrap (1+b)) then i64.wrap (1+b) else n',i64.wrap (k'+1))) else ke (n',k')
def M.Ic l i x' s:=M.Cm l i x' s (λs=>some (Sum.inl s)) λt=>some (Sum.inr t)
def M.GZ l i x' s:=dU (M.Ic l i x') s
def F.GZ:LE X0 93:=le 9 (I5 [cu 0 (pL false 5),cu 3 (pO 300000 0),cu 4 pI,cu 5 pI,cu 6 pI] [cu 300000 zbu]) (λx=>(x.1.va.1,x.1.va.2.1)) (λx s=>((x.1.1,(),x.1.2.2.1,s.1,s.2,()),(x.2.1,()))) (λx=> .leaf (Int×Int) (λt=>(Ex.exit 2,⟨[(0,wB 5 x.1.1),(3,V.own 300000 0),(4,iK x.1.2.2.1),(5,iK t.1),(6,iK t.2),(24,jO false)],[(300000,Cell.arr false true 0 1 x.2.1)]⟩))) (λx=>M.Cm x.1.1 x.1.2.2.1 x.2.1) [] [] (by rintro _ _ ⟨_,_⟩ _ _<;>simp only[M.Cm,nb]<;>rfl)
def M.CB(l:au)(s:Int×au)(kn:Int×au->Option R)(ke:Int×au->Option R):Option R:=match s with
 |(i,x')=>bif decide (i<(↑l.length:Int)) then((M.GZ l i x' (1,0)).bind λa=>sW x' [[D.int .i64 a.1]] 8 λb=>kn (i64.wrap (i+1),b)) else ke (i,x')
def M.Ie l s:=M.CB l s (λs=>some (Sum.inl s)) λt=>some (Sum.inr t)
def M.LH l s:=dU (M.Ie l) s
def F.LH:LE X0 93:=le 5 (I5 [cu 0 (pL false 5),cu 3 (pO 300000 0),cu 4 pI] [cu 300000 zbu]) (λx=>(x.1.2.2.1,x.2.1)) (λx s=>((x.1.1,(),s.1,()),(s.2,()))) (λx=> .leaf (Int×au) (λt=>(Ex.exit 0,⟨[(0,wB 5 x.1.1),(3,V.own 300000 0),(4,iK t.1),(14,jO false)],[(300000,Cell.arr false true 0 1 t.2)]⟩))) (λx=>M.CB x.1.1) [] [F.GZ] (by rintro _ _ ⟨_,_⟩ _ _<;>simp only[sW,M.CB,nb]<;>rfl)
abbrev M.NW(l:au)(k:Int->Option R):=(M.wX l).bind λc=>cond (!c) (k 0) ((M.LH l (0,[])).bind λa=>(idx a.2 (i64.wrap ((↑l.length:Int) - 1))).bind λe=>(a.2[(i64.wrap ((↑l.length:Int) - 1)).toNat]?).bind λd=>(dG .i64 d 0).bind λb=>k b)
def M.wY l:=M.NW l some
def C.wY:=fTa S.wY (λx=>M.NW x.1.1) [fe C.wX] [F.LH]
abbrev M.jy(n' kC:Int)(lZ pX:aI)(qG:au)(k:Int×Int->Option R):=cond (n'==5) (k (1,6)) (cond (n'==13) (k (1,6)) (cond (n'==7) (k (0,6)) (cond (n'==8) (k (0,6)) (cond (n'==27) (k (0,6)) (cond (n'==6) (k (1,1)) (cond (n'==9) (k (1,1)) (cond (n'==10) (k (1,1)) (cond (n'==11) (k (1,1)) (cond (n'==20) (k (1,1)) (cond (n'==32) (k (1,1)) (cond (n'==40) (k (1,1)) (cond (n'==41) (k (1,1)) (cond (n'==12) (k (2,2)) (cond (n'==15) (k (2,2)) (cond (n'==29) (k (2,2)) (cond (n'==30) (k (2,2)) (cond (n'==14) (k (3,3)) (cond (n'==21) (cond (!pX==[]) (k (i64.wrap (kC+1),7)) (k (kC,6))) (cond (n'==23) (k (0,1)) (cond (n'==24) (k (0,1)) (cond (n'==28) (k (2,3)) (cond (n'==31) (k (4,4)) (cond (n'==33) (k (0,(↑qG.length:Int))) (cond (n'==45) (k (0,(↑qG.length:Int))) (cond (n'==42) (k (i64.wrap (1+i64.wrap (kC.tdiv 3)),i64.wrap (1+i64.wrap (kC.tdiv 3)))) (cond (n'==43) (k (i64.wrap (2+i64.wrap (kC.tdiv 3)),i64.wrap (2+i64.wrap (kC.tdiv 3)))) (cond (n'==44) (k (1,7)) (k (0,0)))))))))))))))))))))))))))))
def M.jC n' kC lZ pX qG:=M.jy n' kC lZ pX qG some
def C.jC:=fTa S.jC (λx=>M.jy x.1.1.1 x.1.1.2.1 x.1.1.2.2.1 x.1.1.va.1 x.1.1.va.2.1)
abbrev M.NY(op':Int)(k:Bool->Option R):=cond (op'==60) (k true) (cond (op'==57) (k true) (cond (op'==58) (k true) (cond (op'==59) (k true) (cond (op'==55) (k true) (cond (op'==56) (k true) (cond (op'==99) (k true) (cond (op'==63) (k true) (cond (op'==48) (k true) (cond (op'==47) (k true) (cond (op'==50) (k true) (cond (op'==62) (k true) (cond (op'==49) (k true) (cond (op'==67) (k true) (cond (op'==46) (k true) (cond (op'==45) (k true) (cond (op'==44) (k true) (k false)))))))))))))))))
def M.BP op':=M.NY op' some
def C.BP:=fTa S.BP (λx=>M.NY x.1.1)
abbrev M.Ig(op':Int)(k:Bool->Option R):=cond (op'==54) (k true) ((M.dL op' 38 43).bind λa=>k a)
def M.qA op':=M.Ig op' some
def C.qA:=fTa S.qA (λx=>M.Ig x.1.1) [fe C.dL]
abbrev M.mJ(n' kC:Int)(lZ pX:aI)(qG:au)(k:Bool->Option R):=cond (n'==9) (cond (kC==51) (k true) (k (kC==52))) (cond (n'==10) (cond (kC==51) (k true) (k (kC==52))) (cond (n'==11) (cond (kC==55) (k true) (cond (kC==56) (k true) (k (kC==61)))) (cond (n'==12) ((M.BP kC).bind λd=>k d) (cond (n'==15) ((M.qA kC).bind λb=>k b) (cond (n'==21) ((M.dL kC 0 1).bind λa=>k a) (cond (n'==42) ((M.dL kC 1 3).bind λc=>k c) (cond (n'==43) (cond (kC==1) (k true) (k (kC==3))) (k (kC==0)))))))))
def M.lW n' kC lZ pX qG:=M.mJ n' kC lZ pX qG some
def C.lW:=fTa S.lW (λx=>M.mJ x.1.1.1 x.1.1.2.1 x.1.1.2.2.1 x.1.1.va.1 x.1.1.va.2.1) [fe C.BP,fe C.qA,fe C.dL]
abbrev M.LJ(b:Int)(k:Bool->Option R):=(M.dL b 97 122).bind λa=>cond a (k true) ((M.dL b 65 90).bind λc=>cond c (k true) (k (b==95)))
def M.uf b:=M.LJ b some
def C.uf:=fTa S.uf (λx=>M.LJ x.1.1) [fe C.dL]
abbrev M.NZ(b:Int)(k:Bool->Option R):=(M.dL b 48 57).bind λa=>k a
def M.wZ b:=M.NZ b some
def C.wZ:=fTa S.wZ (λx=>M.NZ x.1.1) [fe C.dL]
abbrev M.Ih(b:Int)(k:Bool->Option R):=(M.uf b).bind λc=>cond c (k true) ((M.wZ b).bind λa=>k a)
def M.vH b:=M.Ih b some
def C.vH:=fTa S.vH (λx=>M.Ih x.1.1) [fe C.uf,fe C.wZ]
def M.yX(s':aI)(s:Int)(kn:Int->Option R)(ke:(Unit)⊕(Int)->Option R):Option R:=match s with
 |i=>bif decide (i<(↑s'.length:Int)) then((idx s' i).bind λa=>(M.vH (i64.wrap (↑a.toNat:Int))).bind λb=>bif !b then(ke (.inl ())) else kn (i64.wrap (i+1))) else ke (.inr i)
def M.Ef s' s:=M.yX s' s (λs=>some (Sum.inl s)) λt=>some (Sum.inr t)
def M.Ii s' s:=dU (M.Ef s') s
def F.Ii:LE X0 188:=le 2 (I5 [cu 0 pS,cu 3 pI] []) (λx=>x.1.2.1) (λx s=>((x.1.1,s,()),())) (λx=> .sum (.leaf (Unit) (λt=>(Ex.ret,⟨[(2,jO false)],[]⟩))) (.leaf (Int) (λt=>(Ex.exit 0,⟨[(0,KI x.1.1),(3,iK t),(7,jO false)],[]⟩)))) (λx=>M.yX x.1.1) [fe C.vH] [] (by rintro _ _ _ _ _<;>simp only[M.yX,nb]<;>rfl)
abbrev M.JV(s':aI)(k:Bool->Option R):=(M.Ii s' 0).bind λe=>kT e (λf=>k false) λb=>letE b λg=>(M.dL ((↑s'.length:Int)) 1 12).bind λa=>cond a ((idx s' 0).bind λd=>(M.uf (i64.wrap (↑d.toNat:Int))).bind λc=>k c) (k false)
def M.xE s':=M.JV s' some
def C.xE:=fTa S.xE (λx=>M.JV x.1.1) [fe C.dL,fe C.uf] [F.Ii]
def M.ED(l:au)(s':aI)(s:Int)(kn:Int->Option R)(ke:(Int)⊕(Int)->Option R):Option R:=match s with
 |i=>bif decide (i<(↑l.length:Int)) then((idx l i).bind λa=>(cStr a 0).bind λb=>bif b==s' then(ke (.inl i)) else kn (i64.wrap (i+1))) else ke (.inr i)
def M.JW l s' s:=M.ED l s' s (λs=>some (Sum.inl s)) λt=>some (Sum.inr t)
def M.N7 l s' s:=dU (M.JW l s') s
def F.N7:LE X0 190:=le 2 (I5 [cu 0 (pL false 1),cu 1 pS,cu 5 pI] []) (λx=>x.1.2.2.1) (λx s=>((x.1.1,x.1.2.1,s,()),())) (λx=> .sum (.leaf (Int) (λt=>(Ex.ret,⟨[(4,iK t)],[]⟩))) (.leaf (Int) (λt=>(Ex.exit 0,⟨[(0,wB 1 x.1.1),(1,KI x.1.2.1),(5,iK t),(9,jO false)],[]⟩)))) (λx=>M.ED x.1.1 x.1.2.1) [] [] (by rintro _ _ _ _ _<;>simp only[M.ED,nb]<;>rfl)
abbrev M.QB(l:au)(s':aI)(k:Int->Option R):=(M.N7 l s' 0).bind λc=>kT c (λa=>k a) λb=>letE b λd=>k (-1)
def M.zB l s':=M.QB l s' some
def C.zB:=fTa S.zB (λx=>M.QB x.1.1 x.1.2.1) [] [F.N7]
abbrev M.JX(s':aI)(k:Int->Option R):=M.zl.bind λb=>(M.zB b s').bind λa=>cond (decide (a<0)) (k 0) (k (i64.wrap (10+a)))
def M.xF s':=M.JX s' some
def C.xF:=fTa S.xF (λx=>M.JX x.1.1) [fe C.zl,fe C.zB]
abbrev M.JY(s':aI)(k:Bool->Option R):=M.qy.bind λb=>(M.zB b s').bind λa=>k (decide (a>=0))
def M.oD s':=M.JY s' some
def C.oD:=fTa S.oD (λx=>M.JY x.1.1) [fe C.qy,fe C.zB]
abbrev M.QC(s':aI)(k:Bool->Option R):=(M.xE s').bind λb=>cond b ((M.xF s').bind λa=>cond (a==0) ((M.oD s').bind λc=>k !c) (k false)) (k false)
def M.mD s':=M.QC s' some
def C.mD:=fTa S.mD (λx=>M.QC x.1.1) [fe C.xE,fe C.xF,fe C.oD]
def M.CG(s':aI)(s:Int)(kn:Int->Option R)(ke:(Unit)⊕(Int)->Option R):Option R:=match s with
 |i=>bif decide (i<(↑s'.length:Int)) then((idx s' i).bind λa=>bif(↑a.toNat:Int)==10 then(ke (.inl ())) else kn (i64.wrap (i+1))) else ke (.inr i)
def M.CJ s' s:=M.CG s' s (λs=>some (Sum.inl s)) λt=>some (Sum.inr t)
def M.LK s' s:=dU (M.CJ s') s
def F.LK:LE X0 137:=le 2 (I5 [cu 0 pS,cu 3 pI] []) (λx=>x.1.2.1) (λx s=>((x.1.1,s,()),())) (λx=> .sum (.leaf (Unit) (λt=>(Ex.ret,⟨[(2,jO false)],[]⟩))) (.leaf (Int) (λt=>(Ex.exit 0,⟨[(0,KI x.1.1),(3,iK t),(7,jO false)],[]⟩)))) (λx=>M.CG x.1.1) [] [] (by rintro _ _ _ _ _<;>simp only[M.CG,nb]<;>rfl)
abbrev M.N8(s':aI)(k:Bool->Option R):=(M.LK s' 0).bind λb=>kT b (λd=>k false) λa=>letE a λc=>k true
def M.BQ s':=M.N8 s' some
def C.BQ:=fTa S.BQ (λx=>M.N8 x.1.1) [] [F.LK]
abbrev M.QD(s':aI)(at':Int)(k:Int->Option R):=cond (decide (at'<0)) (k (-1)) (cond (decide (at'>=(↑s'.length:Int))) (k (-1)) ((idx s' at').bind λa=>k (i64.wrap (↑a.toNat:Int))))
def M.jD s' at':=M.QD s' at' some
def C.jD:=fTa S.jD (λx=>M.QD x.1.1 x.1.2.1)
def M.Gq(s':aI)(s:Int)(kn:Int->Option R)(ke:Int->Option R):Option R:=match s with
 |at'=>(M.jD s' at').bind λa=>(M.wZ a).bind λb=>bif b then(kn (i64.wrap (at'+1))) else ke at'
def M.Ul s' s:=M.Gq s' s (λs=>some (Sum.inl s)) λt=>some (Sum.inr t)
def M.JZ s' s:=dU (M.Ul s') s
def F.JZ:LE X0 185:=le 1 (I5 [cu 0 pS,cu 1 pI] []) (λx=>x.1.2.1) (λx s=>((x.1.1,s,()),())) (λx=> .leaf (Int) (λt=>(Ex.exit 0,⟨[(0,KI x.1.1),(1,iK t),(8,jO false)],[]⟩))) (λx=>M.Gq x.1.1) [fe C.jD,fe C.wZ] [] (by rintro _ _ _ _ _<;>simp only[M.Gq,nb]<;>rfl)
abbrev M.LM(s':aI)(at':Int)(k:Int->Option R):=(M.JZ s' at').bind λa=>k a
def M.eu s' at':=M.LM s' at' some
def C.eu:=fTa S.eu (λx=>M.LM x.1.1 x.1.2.1) [] [F.JZ]
abbrev M.xK(s':aI)(Pm:Int)(k:Int->Option R):=(M.jD s' (i64.wrap (Pm+1))).bind λc=>cond (c==43) ((M.eu s' (i64.wrap (i64.wrap (Pm+1)+1))).bind λe=>cond (decide (e>i64.wrap (i64.wrap (Pm+1)+1))) ((M.eu s' (i64.wrap (i64.wrap (Pm+1)+1))).bind λb=>k b) (k Pm)) ((M.jD s' (i64.wrap (Pm+1))).bind λh=>cond (h==45) ((M.eu s' (i64.wrap (i64.wrap (Pm+1)+1))).bind λa=>cond (decide (a>i64.wrap (i64.wrap (Pm+1)+1))) ((M.eu s' (i64.wrap (i64.wrap (Pm+1)+1))).bind λg=>k g) (k Pm)) ((M.eu s' (i64.wrap (Pm+1))).bind λf=>cond (decide (f>i64.wrap (Pm+1))) ((M.eu s' (i64.wrap (Pm+1))).bind λd=>k d) (k Pm)))
def M.QE(s':aI)(at':Int)(k:Int->Option R):=cond (decide (at'<0)) (k (-1)) ((M.eu s' at').bind λa=>(M.jD s' a).bind λc=>cond (c==46) ((M.eu s' (i64.wrap (a+1))).bind λb=>cond (a==at') (cond (b==i64.wrap (a+1)) (k (-1)) (cond (b==at') (k (-1)) ((M.jD s' b).bind λd=>cond (d==101) (M.xK s' b k) ((M.jD s' b).bind λh=>cond (h==69) (M.xK s' b k) (k b))))) (cond (b==at') (k (-1)) ((M.jD s' b).bind λe=>cond (e==101) (M.xK s' b k) ((M.jD s' b).bind λf=>cond (f==69) (M.xK s' b k) (k b))))) (cond (a==at') (k (-1)) ((M.jD s' a).bind λg=>cond (g==101) (M.xK s' a k) ((M.jD s' a).bind λi=>cond (i==69) (M.xK s' a k) (k a)))))
def M.FK s' at':=M.QE s' at' some
def C.FK:S.FK.ok X0 λx=>M.FK x.1.1 x.1.2.1:=fnS (λx=>M.QE x.1.1 x.1.2.1) [fe C.eu,fe C.jD] [] (by intros;unfold M.QE M.xK;exact zbJ)
def M.wK(s':aI)(sign s:Int)(kn:Int->Option R)(ke:(Int)⊕(Int)->Option R):Option R:=match s with
 |i=>bif decide (i<(↑s'.length:Int)) then((idx s' i).bind λa=>bif i64.wrap (↑a.toNat:Int)==sign then(ke (.inl (i64.wrap (i+1)))) else bif i64.wrap (↑a.toNat:Int)==10 then(ke (.inl (-1))) else bif i64.wrap (↑a.toNat:Int)==92 then((M.jD s' (i64.wrap (i+1))).bind λb=>bif b==10 then(ke (.inl (-1))) else kn (i64.wrap (i64.wrap (i+1)+1))) else kn (i64.wrap (i+1))) else ke (.inr i)
def M.Af s' sign s:=M.wK s' sign s (λs=>some (Sum.inl s)) λt=>some (Sum.inr t)
def M.wL s' sign s:=dU (M.Af s' sign) s
def F.wL:LE X0 187:=le 4 (I5 [cu 0 pS,cu 2 pI,cu 7 pI] []) (λx=>x.1.2.2.1) (λx s=>((x.1.1,x.1.2.1,s,()),())) (λx=> .sum (.leaf (Int) (λt=>(Ex.ret,⟨[(6,iK t)],[]⟩))) (.leaf (Int) (λt=>(Ex.exit 0,⟨[(0,KI x.1.1),(2,iK x.1.2.1),(7,iK t),(18,jO false)],[]⟩)))) (λx=>M.wK x.1.1 x.1.2.1) [fe C.jD] [] (by rintro _ _ _ _ _<;>simp only[M.wK,nb]<;>rfl)
abbrev M.LP(s':aI)(at' sign:Int)(k:Int->Option R):=(M.jD s' at').bind λd=>cond (d !=sign) (k (-1)) ((M.wL s' sign (i64.wrap (at'+1))).bind λb=>kT b (λc=>k c) λa=>letE a λe=>k (-1))
def M.ug s' at' sign:=M.LP s' at' sign some
def C.ug:=fTa S.ug (λx=>M.LP x.1.1 x.1.2.1 x.1.2.2.1) [fe C.jD] [F.wL]
abbrev M.QF(s':aI)(at':Int)(k:Int->Option R):=(M.ug s' at' 34).bind λa=>k a
def M.FM s' at':=M.QF s' at' some
def C.FM:=fTa S.FM (λx=>M.QF x.1.1 x.1.2.1) [fe C.ug]
abbrev M.QG(s':aI)(at':Int)(k:Int->Option R):=(M.ug s' at' 47).bind λa=>cond (a==i64.wrap (at'+2)) (k (-1)) (k a)
def M.FP s' at':=M.QG s' at' some
def C.FP:=fTa S.FP (λx=>M.QG x.1.1 x.1.2.1) [fe C.ug]
abbrev M.N9(t':Int)(Gs:aI)(RN:Int)(k:Bool->Option R):=cond (t'==2) (cond (decide ((↑Gs.length:Int)>0)) ((idx Gs 0).bind λa=>cond ((↑a.toNat:Int)==35) ((M.BQ Gs).bind λh=>k h) (k false)) (k false)) (cond (t'==3) (cond (decide ((↑Gs.length:Int)>0)) ((M.FK Gs 0).bind λd=>k (d==(↑Gs.length:Int))) (k false)) (cond (t'==4) ((M.FM Gs 0).bind λi=>k (i==(↑Gs.length:Int))) (cond (t'==5) ((M.FP Gs 0).bind λc=>k (c==(↑Gs.length:Int))) (cond (t'==6) ((M.mD Gs).bind λe=>k e) (cond (t'==7) ((M.mD Gs).bind λf=>k f) (cond (t'==8) ((M.oD Gs).bind λg=>k g) (cond (!Gs==[]) ((M.qI t').bind λb=>k (b==Gs)) (k false))))))))
def M.mP t' Gs RN:=M.N9 t' Gs RN some
def C.mP:=fTa S.mP (λx=>M.N9 x.1.1.1 x.1.1.2.1 x.1.1.2.2.1) [fe C.BQ,fe C.FK,fe C.FM,fe C.FP,fe C.mD,fe C.oD,fe C.qI]
abbrev M.jA(n' kC:Int)(lZ pX:aI)(qG:au)(k:Bool->Option R):=cond (n'==1) ((M.mD lZ).bind λg=>cond g (k (pX==[])) (k false)) (cond (n'==5) ((M.mD lZ).bind λh=>cond h (k (pX==[])) (k false)) (cond (n'==7) ((M.mD lZ).bind λm=>cond m (k (pX==[])) (k false)) (cond (n'==13) ((M.mD lZ).bind λd=>cond d (k (pX==[])) (k false)) (cond (n'==27) ((M.mD lZ).bind λa=>cond a (k (pX==[])) (k false)) (cond (n'==44) ((M.mD lZ).bind λe=>cond e (k (pX==[])) (k false)) (cond (n'==2) ((M.mP 3 lZ 0).bind λb=>cond b (k (pX==[])) (k false)) (cond (n'==3) ((M.mP 4 lZ 0).bind λj=>cond j (k (pX==[])) (k false)) (cond (n'==4) ((M.mP 5 lZ 0).bind λf=>cond f (k (pX==[])) (k false)) (cond (n'==34) ((M.mP 2 lZ 0).bind λi=>cond i (k (pX==[])) (k false)) (cond (n'==8) ((M.oD lZ).bind λn=>cond n (k (pX==[])) (k false)) (cond (n'==32) ((M.mD lZ).bind λl=>cond l ((M.mD pX).bind λc=>k c) (k false)) (cond (n'==21) (cond (lZ==[]) (cond (pX==[]) (k true) (cond (pX==[62]) (k true) (cond (pX==[62,62]) (k true) (k (pX==[124]))))) (k false)) (cond (lZ==[]) (k (pX==[])) (k false))))))))))))))
def M.iL n' kC lZ pX qG:=M.jA n' kC lZ pX qG some
def C.iL:=fTa S.iL (λx=>M.jA x.1.1.1 x.1.1.2.1 x.1.1.2.2.1 x.1.1.va.1 x.1.1.va.2.1) [fe C.mD,fe C.mP,fe C.oD]
abbrev M.gW(n' kC:Int)(lZ pX:aI)(qG:au)(k:Bool->Option R):=(M.jC n' kC lZ pX qG).bind λa=>(M.dL n' 1 16).bind λm=>cond m ((M.lW n' kC lZ pX qG).bind λi=>cond i ((M.iL n' kC lZ pX qG).bind λn=>cond n ((M.dL ((↑qG.length:Int)) a.1 a.2).bind λb=>k b) (k false)) (k false)) ((M.dL n' 20 34).bind λl=>cond l ((M.lW n' kC lZ pX qG).bind λh=>cond h ((M.iL n' kC lZ pX qG).bind λj=>cond j ((M.dL ((↑qG.length:Int)) a.1 a.2).bind λe=>k e) (k false)) (k false)) ((M.dL n' 40 45).bind λf=>cond f ((M.lW n' kC lZ pX qG).bind λd=>cond d ((M.iL n' kC lZ pX qG).bind λc=>cond c ((M.dL ((↑qG.length:Int)) a.1 a.2).bind λg=>k g) (k false)) (k false)) (k false)))
def M.dQ n' kC lZ pX qG:=M.gW n' kC lZ pX qG some
def C.dQ:=fTa S.dQ (λx=>M.gW x.1.1.1 x.1.1.2.1 x.1.1.2.2.1 x.1.1.va.1 x.1.1.va.2.1) [fe C.jC,fe C.dL,fe C.lW,fe C.iL]
abbrev M.G7(kind:Int)(k:Bool->Option R):=cond (kind==1) (k true) (cond (kind==5) (k true) (k (kind==6)))
def M.nP kind:=M.G7 kind some
def C.nP:=fTa S.nP (λx=>M.G7 x.1.1)
abbrev M.QH(kind:Int)(k:Bool->Option R):=(M.dL kind 1 15).bind λa=>k a
def M.kL kind:=M.QH kind some
def C.kL:=fTa S.kL (λx=>M.QH x.1.1) [fe C.dL]
abbrev M.QI(kind:Int)(k:Bool->Option R):=(M.dL kind 20 34).bind λa=>k a
def M.FQ kind:=M.QI kind some
def C.FQ:=fTa S.FQ (λx=>M.QI x.1.1) [fe C.dL]
abbrev M.uq(kC k':Int)(qG:au)(kind:Int)(k:Bool->Option R):=cond (kC==3) (cond (k'==i64.wrap ((↑qG.length:Int) - 1)) (cond (kind==33) (k true) (cond (!k'==i64.wrap ((↑qG.length:Int) - 1)) ((M.kL kind).bind λa=>k a) (k false))) (cond (!k'==i64.wrap ((↑qG.length:Int) - 1)) ((M.kL kind).bind λb=>k b) (k false))) (k false)
def M.CO(n' kC:Int)(lZ pX:aI)(qG:au)(k' kind:Int)(k:Bool->Option R):=cond (n'==9) ((M.nP kind).bind λc=>k c) (cond (n'==10) ((M.nP kind).bind λb=>k b) (cond (n'==15) ((M.kL kind).bind λm=>cond m (cond (decide (k'>0)) (k true) ((M.nP kind).bind λe=>k e)) (k false)) (cond (n'==28) (cond (k'==0) ((M.kL kind).bind λi=>cond i (k true) (cond (decide (k'>0)) (k (kind==33)) (k false))) (cond (decide (k'>0)) (k (kind==33)) (k false))) (cond (n'==29) (cond (k'==0) ((M.kL kind).bind λa=>cond a (k true) (cond (k'==1) (k (kind==33)) (k false))) (cond (k'==1) (k (kind==33)) (k false))) (cond (n'==30) (cond (k'==0) (cond (kind==33) (k true) (cond (k'==1) ((M.kL kind).bind λf=>k f) (k false))) (cond (k'==1) ((M.kL kind).bind λg=>k g) (k false))) (cond (n'==31) (cond (decide (k'<3)) ((M.kL kind).bind λn=>cond n (k true) (cond (kind==16) (k true) (cond (k'==3) (k (kind==33)) (k false)))) (cond (k'==3) (k (kind==33)) (k false))) (cond (n'==32) (k (kind==33)) (cond (n'==40) (k (kind==33)) (cond (n'==41) (k (kind==33)) (cond (n'==33) ((M.FQ kind).bind λo=>k o) (cond (n'==42) (cond (kC==1) ((M.kL kind).bind λh=>cond h (k true) (cond (kC==2) (cond (kind==33) (k true) (M.uq kC k' qG kind k)) (M.uq kC k' qG kind k))) (cond (kC==2) (cond (kind==33) (k true) (M.uq kC k' qG kind k)) (M.uq kC k' qG kind k))) (cond (n'==43) (cond (decide (k'<2)) ((M.kL kind).bind λj=>cond j (k true) (cond (k'==2) (k (kind==33)) (k false))) (cond (k'==2) (k (kind==33)) (k false))) (cond (n'==44) (cond (k'==i64.wrap ((↑qG.length:Int) - 1)) (cond (kind==33) (k true) (cond (!k'==i64.wrap ((↑qG.length:Int) - 1)) (k (kind==1)) (k false))) (cond (!k'==i64.wrap ((↑qG.length:Int) - 1)) (k (kind==1)) (k false))) (cond (n'==45) ((M.dL kind 40 44).bind λl=>cond l (k true) (k (kind==34))) ((M.kL kind).bind λd=>k d)))))))))))))))
def M.o9 n' kC lZ pX qG k' kind:=M.CO n' kC lZ pX qG k' kind some
def C.o9:S.o9.ok X0 λx=>eH M.o9 x.1.1 x.1.2.1 x.1.2.2.1:=fnS (λx=>M.CO x.1.1.1 x.1.1.2.1 x.1.1.2.2.1 x.1.1.va.1 x.1.1.va.2.1 x.1.2.1 x.1.2.2.1) [fe C.nP,fe C.kL,fe C.FQ,fe C.dL] [] (by intros;unfold M.CO M.uq;exact zbJ)
def M.EF(l:au)(i s:Int)(kn:Int->Option R)(ke:(Unit)⊕(Int)->Option R):Option R:=match s with
 |k'=>(idx l i).bind λh=>(cSl 1 h 4).bind λg=>bif decide (k'<(↑g.length:Int)) then((idx l i).bind λb=>qh 1 b λaYj aYk aYl aYm aAn=>((idx l i).bind λc=>(cSl 1 c 4).bind λa=>(idx a k').bind λj=>(dG .i64 j 0).bind λf=>(idx l f).bind λd=>(dG .i64 d 0).bind λk=>(M.o9 aYj aYk aYl aYm aAn k' k).bind λe=>bif !e then(ke (.inl ())) else kn (i64.wrap (k'+1)))) else ke (.inr k')
def M.P6 l i s:=M.EF l i s (λs=>some (Sum.inl s)) λt=>some (Sum.inr t)
def M.Ji l i s:=dU (M.P6 l i) s
def F.Ji:LE X0 94:=le 9 (I5 [cu 0 (pL false 5),cu 3 pI,cu 4 pI] []) (λx=>x.1.2.2.1) (λx s=>((x.1.1,x.1.2.1,s,()),())) (λx=> .sum (.leaf (Unit) (λt=>(Ex.ret,⟨[(2,jO false)],[]⟩))) (.leaf (Int) (λt=>(Ex.exit 2,⟨[(0,wB 5 x.1.1),(3,iK x.1.2.1),(4,iK t),(32,jO false)],[]⟩)))) (λx=>M.EF x.1.1 x.1.2.1) [fe C.o9] [] (by rintro _ _ _ _ _<;>simp only[qh,M.EF,nb]<;>rfl)
def M.EH(l:au)(s:Int)(kn:Int->Option R)(ke:(Unit)⊕(Int)->Option R):Option R:=match s with
 |i=>bif decide (i<(↑l.length:Int)) then((idx l i).bind λb=>qh 1 b λn249 n250 aYq aYr aAp=>((M.dQ n249 n250 aYq aYr aAp).bind λa=>bif !a then(ke (.inl ())) else (M.Ji l i 0).bind λc=>kT c (λe=>ke (.inl ())) λd=>letE d λf=>kn (i64.wrap (i+1)))) else ke (.inr i)
def M.P7 l s:=M.EH l s (λs=>some (Sum.inl s)) λt=>some (Sum.inr t)
def M.Jj l s:=dU (M.P7 l) s
def F.Jj:LE X0 94:=le 4 (I5 [cu 0 (pL false 5),cu 3 pI] []) (λx=>x.1.2.1) (λx s=>((x.1.1,s,()),())) (λx=> .sum (.leaf (Unit) (λt=>(Ex.ret,⟨[(2,jO false)],[]⟩))) (.leaf (Int) (λt=>(Ex.exit 0,⟨[(0,wB 5 x.1.1),(3,iK t),(16,jO false)],[]⟩)))) (λx=>M.EH x.1.1) [fe C.dQ] [F.Ji] (by rintro _ _ _ _ _<;>simp only[qh,M.EH,nb]<;>rfl)
abbrev M.QJ(l:au)(k:Bool->Option R):=(M.wX l).bind λc=>cond (!c) (k false) ((M.wY l).bind λd=>cond (decide (d>40)) (k false) ((M.Jj l 0).bind λa=>kT a (λe=>k false) λb=>letE b λf=>k true))
def M.FT l:=M.QJ l some
def C.FT:=fTa S.FT (λx=>M.QJ x.1.1) [fe C.wX,fe C.wY] [F.Jj]
abbrev M.KY(l:au)(k:Bool->Option R):=(M.FT l).bind λd=>cond d ((idx l (i64.wrap ((↑l.length:Int) - 1))).bind λc=>(dG .i64 c 0).bind λb=>(M.kL b).bind λa=>k a) (k false)
def M.oW l:=M.KY l some
def C.oW:=fTa S.oW (λx=>M.KY x.1.1) [fe C.FT,fe C.kL]
abbrev M.MX(k:Int×Bool×Bool×Bool×Bool->Option R):=k (1,false,false,false,false)
def M.fO:Option (Int×Bool×Bool×Bool×Bool):=M.MX some
def C.fO:=fTa S.fO (λx=>M.MX)
abbrev M.Tj(p:Int)(p1 p2 p3 p4:Bool)(k:Bool->Option R):=(M.dL p 1 15).bind λa=>cond a (cond (!p1) (k true) (k (p==14))) (k false)
def M.pz p p1 p2 p3 p4:=M.Tj p p1 p2 p3 p4 some
def C.pz:=fTa S.pz (λx=>M.Tj x.1.1.1 x.1.1.2.1 x.1.1.2.2.1 x.1.1.va.1 x.1.1.va.2.1) [fe C.dL]
abbrev M.Oa(op':Int)(k:Int->Option R):=cond (op'==44) (k 3) (cond (op'==45) (k 4) (cond (op'==67) (k 6) (cond (op'==46) (k 6) (cond (op'==63) (k 7) (cond (op'==48) (k 7) (cond (op'==47) (k 7) (cond (op'==50) (k 7) (cond (op'==62) (k 7) (cond (op'==49) (k 7) (cond (op'==99) (k 8) (cond (op'==55) (k 9) (cond (op'==56) (k 9) (cond (op'==57) (k 10) (cond (op'==58) (k 10) (cond (op'==59) (k 10) (cond (op'==60) (k 12) (k 0)))))))))))))))))
def M.qJ op':=M.Oa op' some
def C.qJ:=fTa S.qJ (λx=>M.Oa x.1.1)
abbrev M.Ob(n' kC:Int)(lZ pX:aI)(qG:au)(k:Int->Option R):=cond (n'==15) (k 1) (cond (n'==14) (k 2) (cond (n'==13) (k 5) (cond (n'==12) ((M.qJ kC).bind λa=>k a) (cond (n'==11) (k 11) (cond (n'==9) (k 13) (cond (n'==10) (k 13) (cond (n'==6) (k 14) (cond (n'==1) (k 15) (cond (n'==2) (k 15) (cond (n'==3) (k 15) (cond (n'==4) (k 15) (cond (n'==5) (k 15) (cond (n'==7) (k 15) (cond (n'==8) (k 15) (k 0)))))))))))))))
def M.mQ n' kC lZ pX qG:=M.Ob n' kC lZ pX qG some
def C.mQ:=fTa S.mQ (λx=>M.Ob x.1.1.1 x.1.1.2.1 x.1.1.2.2.1 x.1.1.va.1 x.1.1.va.2.1) [fe C.qJ]
abbrev M.CP(p4:Bool)(n':Int)(k:Bool->Option R)(p1:Bool)(kC:Int)(lZ pX:aI)(qG:au)(p:Int):=cond p4 (cond (n'==11) (k false) (cond (n'==9) (k false) (cond (n'==4) (k false) (cond p1 (cond (n'==9) (k true) ((M.mQ n' kC lZ pX qG).bind λd=>k (decide (d>=p)))) ((M.mQ n' kC lZ pX qG).bind λb=>k (decide (b>=p))))))) (cond p1 (cond (n'==9) (k true) ((M.mQ n' kC lZ pX qG).bind λc=>k (decide (c>=p)))) ((M.mQ n' kC lZ pX qG).bind λa=>k (decide (a>=p))))
def M.U1(n' kC:Int)(lZ pX:aI)(qG:au)(p:Int)(p1 p2 p3 p4:Bool)(k:Bool->Option R):=(M.pz p p1 p2 p3 p4).bind λb=>cond (!b) (k false) ((M.mQ n' kC lZ pX qG).bind λa=>cond (a==0) (k false) (cond p2 (cond (n'==13) (k false) (cond p3 (cond (n'==12) (cond (kC==62) (k false) (M.CP p4 n' k p1 kC lZ pX qG p)) (M.CP p4 n' k p1 kC lZ pX qG p)) (M.CP p4 n' k p1 kC lZ pX qG p))) (cond p3 (cond (n'==12) (cond (kC==62) (k false) (M.CP p4 n' k p1 kC lZ pX qG p)) (M.CP p4 n' k p1 kC lZ pX qG p)) (M.CP p4 n' k p1 kC lZ pX qG p))))
def M.kM n' kC lZ pX qG p p1 p2 p3 p4:=M.U1 n' kC lZ pX qG p p1 p2 p3 p4 some
def C.kM:S.kM.ok X0 λx=>eH (eH M.kM x.1.1) x.1.2.1:=fnS (λx=>M.U1 x.1.1.1 x.1.1.2.1 x.1.1.2.2.1 x.1.1.va.1 x.1.1.va.2.1 x.1.2.1.1 x.1.2.1.2.1 x.1.2.1.2.2.1 x.1.2.1.va.1 x.1.2.1.va.2.1) [fe C.pz,fe C.mQ] [] (by intros;unfold M.U1 M.CP;exact zbJ)
abbrev M.Ag(n' kC:Int)(lZ pX:aI)(qG:au)(k:Int×aI×Int->Option R):=cond (n'==1) (k (6,lZ,0)) (cond (n'==2) (k (3,lZ,0)) (cond (n'==3) (k (4,lZ,0)) (cond (n'==4) (k (5,lZ,0)) (k (0,[],0)))))
def M.lH n' kC lZ pX qG:=M.Ag n' kC lZ pX qG some
def C.lH:=fTa S.lH (λx=>M.Ag x.1.1.1 x.1.1.2.1 x.1.1.2.2.1 x.1.1.va.1 x.1.1.va.2.1)
abbrev M.QK(kind:Int)(k:Int×aI×Int->Option R):=(M.qI kind).bind λa=>k (kind,a,0)
def M.eY kind:=M.QK kind some
def C.eY:=fTa S.eY (λx=>M.QK x.1.1) [fe C.qI]
def M.CQ(bY:zae)(kids x':au)(jl:Bool)(s:Int×au)(kn:Int×au->Option R)(ke:Int×au->Option R):Option R:=match s with
 |(k',kW)=>bif decide (k'<(↑kids.length:Int)) then(bif decide (k'>0) then((M.eY 36).bind λc=>sW kW [[D.int .i64 c.1,D.str c.2.1,D.int .i64 c.2.2]] 32 λza=>(idx kids k').bind λd=>(dG .i64 d 0).bind λi=>M.fO.bind λa=>(bY x' jl i a.1 a.2.1 a.2.2.1 a.2.2.2.1 a.2.2.2.2).bind λg=>sW za g 32 λj=>kn (i64.wrap (k'+1),j)) else (idx kids k').bind λf=>(dG .i64 f 0).bind λh=>M.fO.bind λb=>(bY x' jl h b.1 b.2.1 b.2.2.1 b.2.2.2.1 b.2.2.2.2).bind λe=>sW kW e 32 λza=>kn (i64.wrap (k'+1),za)) else ke (k',kW)
def M.CS bY kids x' jl s:=M.CQ bY kids x' jl s (λs=>some (Sum.inl s)) λt=>some (Sum.inr t)
def M.LQ bY kids x' jl s:=dU (M.CS bY kids x' jl) s
def F.LQ{bY:zae}(Gt:S.nZ.ok X0 λx=>eH (bY x.1.1.1 x.1.1.2.1 x.1.2.1) x.1.2.2.1):LE X0 227:=le 3 (I5 [cu 1 (pL false 1),cu 2 (pP 300000 0),cu 5 (pO 300001 0),cu 6 pI] [cu 300000 (cB 152 [pL false 5,pB]),cu 300001 zby]) (λx=>(x.1.va.1,x.2.2.1)) (λx s=>((x.1.1,(),(),s.1,()),((x.2.1.1,x.2.1.2.1,()),s.2,()))) (λx=> .leaf (Int×au) (λt=>(Ex.exit 0,⟨[(1,wB 1 x.1.1),(2,V.ptr 300000 0),(5,V.own 300001 0),(6,iK t.1),(11,jO false)],[(300000,Cell.box 152 [wB 5 x.2.1.1,jO x.2.1.2.1]),(300001,Cell.arr false true 0 3 t.2)]⟩))) (λx=>M.CQ bY x.1.1 x.2.1.1 x.2.1.2.1) [fe C.eY,fe C.fO,fe Gt] [] (by rintro _ _ ⟨_,_⟩ _ _<;>unfold M.CQ<;>exact zbJ)
def M.EI(bY:zae)(w:au)(w1:Bool)(kids:au)(k:au->Option R):=(M.LQ bY kids w w1 (0,[])).bind λa=>cond (aj a.2) (k a.2) none
def C.afo{bY:zae}(Gt:S.nZ.ok X0 λx=>eH (bY x.1.1.1 x.1.1.2.1 x.1.2.1) x.1.2.2.1):S.SY.ok X0 λx=>M.EI bY x.1.1.1 x.1.1.2.1 x.1.2.1 some:=fnS (λx=>M.EI bY x.1.1.1 x.1.1.2.1 x.1.2.1) [] [F.LQ Gt] (by intros;unfold M.EI;exact zbJ)
def M.BD(nJ:zan)(w:au)(w1:Bool)(t':Int)(Gs:aI)(RN:Int)(kids:au)(open':Int)(k:au->Option R):=(M.eY open').bind λb=>(nJ w w1 kids).bind λc=>sW [[D.int .i64 t',D.str Gs,D.int .i64 RN],[D.int .i64 b.1,D.str b.2.1,D.int .i64 b.2.2]] c 32 λe=>(M.eY (i64.wrap (open'+1))).bind λa=>sW e [[D.int .i64 a.1,D.str a.2.1,D.int .i64 a.2.2]] 32 λd=>cond (aj d) (k d) none
def C.adL{nJ:zan}(Um:S.SY.ok X0 λx=>nJ x.1.1.1 x.1.1.2.1 x.1.2.1):S.Vt.ok X0 λx=>M.BD nJ x.1.1.1 x.1.1.2.1 x.1.2.1.1 x.1.2.1.2.1 x.1.2.1.2.2.1 x.1.2.2.1 x.1.va.1 some:=fnS (λx=>M.BD nJ x.1.1.1 x.1.1.2.1 x.1.2.1.1 x.1.2.1.2.1 x.1.2.1.2.2.1 x.1.2.2.1 x.1.va.1) [fe C.eY,fe Um] [] (by intros;simp only[M.BD,sW];exact zbJ)
def M.EJ(eP:zae)(w:au)(w1:Bool)(i:Int)(k:au->Option R):=(eP w w1 i 14 false false false false).bind λa=>cond (aj a) (k a) none
def C.acj{eP:zae}(Un:S.S9.ok X0 λx=>eH (eP x.1.1.1 x.1.1.2.1 x.1.2.1) x.1.2.2.1):S.Uh.ok X0 λx=>M.EJ eP x.1.1.1 x.1.1.2.1 x.1.2.1 some:=fnS (λx=>M.EJ eP x.1.1.1 x.1.1.2.1 x.1.2.1) [fe Un] [] (by intros;unfold M.EJ;exact zbJ)
abbrev M.Oe(op':Int)(k:Int×Int->Option R):=(M.qJ op').bind λa=>cond (a==3) (k (3,4)) (cond (a==4) (k (4,5)) (cond (a==6) (k (7,7)) (cond (a==7) (k (8,8)) (cond (a==8) (k (8,9)) (cond (a==9) (k (9,10)) (cond (a==10) (k (10,11)) (k (13,11))))))))
def M.kG op':=M.Oe op' some
def C.kG:=fTa S.kG (λx=>M.Oe x.1.1) [fe C.qJ]
abbrev M.QL(n' kC:Int)(lZ pX:aI)(qG:au)(k' p:Int)(p1 p2 p3 p4:Bool)(k:Int×Bool×Bool×Bool×Bool->Option R):=(M.pz p p1 p2 p3 p4).bind λg=>cond (!g) (k (0,false,false,false,false)) ((M.dL k' 0 (i64.wrap ((↑qG.length:Int) - 1))).bind λh=>cond (!h) (k (0,false,false,false,false)) ((M.mQ n' kC lZ pX qG).bind λi=>cond (i==0) (k (0,false,false,false,false)) (cond p4 (cond (n'==15) (cond (decide (k'>0)) (k (1,false,p2,p3,k'==0)) (k (14,false,p2,p3,k'==0))) (cond (n'==14) (cond (k'==0) (k (3,false,p2,p3,k'==0)) (k (2,false,p2,p3,k'==0))) (cond (n'==13) (cond (decide ((↑qG.length:Int)>1)) (M.fO.bind λd=>k (d)) (k (5,false,p2,p3,k'==0))) (cond (n'==12) ((M.kG kC).bind λf=>cond (decide (k'>0)) (k (f.2,false,p2,p3,kC==99)) (k (f.1,false,p2,p3,k'==0))) (cond (n'==11) (k (11,false,p2,p3,false)) (cond (n'==9) (k (14,false,p2,p3,false)) (cond (n'==10) (k (14,false,p2,p3,false)) (cond (n'==6) (k (14,true,p2,p3,false)) (M.fO.bind λa=>k (a)))))))))) (cond (n'==15) (cond (decide (k'>0)) (k (1,false,p2,p3,false)) (k (14,false,p2,p3,false))) (cond (n'==14) (cond (k'==0) (k (3,false,p2,p3,false)) (k (2,false,p2,p3,false))) (cond (n'==13) (cond (decide ((↑qG.length:Int)>1)) (M.fO.bind λb=>k (b)) (k (5,false,p2,p3,false))) (cond (n'==12) ((M.kG kC).bind λe=>cond (decide (k'>0)) (k (e.2,false,p2,p3,kC==99)) (k (e.1,false,p2,p3,false))) (cond (n'==11) (k (11,false,p2,p3,false)) (cond (n'==9) (k (14,false,p2,p3,false)) (cond (n'==10) (k (14,false,p2,p3,false)) (cond (n'==6) (k (14,true,p2,p3,false)) (M.fO.bind λc=>k (c)))))))))))))
def M.dw n' kC lZ pX qG k' p p1 p2 p3 p4:=M.QL n' kC lZ pX qG k' p p1 p2 p3 p4 some
def C.dw:=fTa S.dw (λx=>M.QL x.1.1.1 x.1.1.2.1 x.1.1.2.2.1 x.1.1.va.1 x.1.1.va.2.1 x.1.2.1 x.1.2.2.1.1 x.1.2.2.1.2.1 x.1.2.2.1.2.2.1 x.1.2.2.1.va.1 x.1.2.2.1.va.2.1) [fe C.pz,fe C.dL,fe C.mQ,fe C.fO,fe C.kG]
def M.BF(bY:zae)(w:au)(w1:Bool)(n' kC:Int)(lZ pX:aI)(qG:au)(p:Int)(p1 p2 p3 p4:Bool)(k:au->Option R):=(idx qG 0).bind λo=>(dG .i64 o 0).bind λn=>(M.dw n' kC lZ pX qG 0 p p1 p2 p3 p4).bind λd=>(bY w w1 n d.1 d.2.1 d.2.2.1 d.2.2.2.1 d.2.2.2.2).bind λg=>cond (n'==14) ((M.eY 65).bind λh=>sW g [[D.int .i64 h.1,D.str h.2.1,D.int .i64 h.2.2]] 32 λza=>(idx qG 1).bind λt=>(dG .i64 t 0).bind λs=>(M.dw n' kC lZ pX qG 1 p p1 p2 p3 p4).bind λc=>(bY w w1 s c.1 c.2.1 c.2.2.1 c.2.2.2.1 c.2.2.2.2).bind λx=>sW za x 32 λzb=>(M.eY 66).bind λf=>sW zb [[D.int .i64 f.1,D.str f.2.1,D.int .i64 f.2.2]] 32 λza=>(idx qG 2).bind λq=>(dG .i64 q 0).bind λl=>(M.dw n' kC lZ pX qG 2 p p1 p2 p3 p4).bind λe=>(bY w w1 l e.1 e.2.1 e.2.2.1 e.2.2.2.1 e.2.2.2.2).bind λj=>sW za j 32 λzb=>cond (aj zb) (k zb) none) (cond (kC !=99) ((M.eY kC).bind λi=>sW g [[D.int .i64 i.1,D.str i.2.1,D.int .i64 i.2.2]] 32 λza=>(idx qG 1).bind λr=>(dG .i64 r 0).bind λy=>(M.dw n' kC lZ pX qG 1 p p1 p2 p3 p4).bind λb=>(bY w w1 y b.1 b.2.1 b.2.2.1 b.2.2.2.1 b.2.2.2.2).bind λz=>sW za z 32 λzb=>cond (aj zb) (k zb) none) ((idx qG 1).bind λu=>(dG .i64 u 0).bind λv=>(M.dw n' kC lZ pX qG 1 p p1 p2 p3 p4).bind λa=>(bY w w1 v a.1 a.2.1 a.2.2.1 a.2.2.2.1 a.2.2.2.2).bind λm=>sW g m 32 λza=>cond (aj za) (k za) none))
def C.adM{bY:zae}(Gt:S.nZ.ok X0 λx=>eH (bY x.1.1.1 x.1.1.2.1 x.1.2.1) x.1.2.2.1):S.Vu.ok X0 λx=>eH (eH (M.BF bY x.1.1.1 x.1.1.2.1) x.1.2.1) x.1.2.2.1 some:=fnS (λx=>M.BF bY x.1.1.1 x.1.1.2.1 x.1.2.1.1 x.1.2.1.2.1 x.1.2.1.2.2.1 x.1.2.1.va.1 x.1.2.1.va.2.1 x.1.2.2.1.1 x.1.2.2.1.2.1 x.1.2.2.1.2.2.1 x.1.2.2.1.va.1 x.1.2.2.1.va.2.1) [fe C.dw,fe Gt,fe C.eY] [] (by intros;simp only[M.BF,sW];exact zbJ)
end
noncomputable section
variable {R:Type}
abbrev M.G8(acn:Int×aI×Int)(atY:au)(k:au->Option R):=cond ((([[D.int .i64 acn.1,D.str acn.2.1,D.int .i64 acn.2.2]].length+atY.length) * 32).ble 140737488355328) (cond (([[D.int .i64 acn.1,D.str acn.2.1,D.int .i64 acn.2.2]].length+atY.length).ble 140737488355328) (cond (aj ([[D.int .i64 acn.1,D.str acn.2.1,D.int .i64 acn.2.2]]++atY)) (k ([[D.int .i64 acn.1,D.str acn.2.1,D.int .i64 acn.2.2]]++atY)) none) none) none
def M.EK(uO:zax)(sH:zay)(bY:zae)(nJ:zan)(CU:zaz)(w:au)(w1:Bool)(i p:Int)(p1 p2 p3 p4:Bool)(k:au->Option R):=(idx w i).bind λF=>qh 1 F λabm ajp ahg atZ Bc=>((M.lH abm ajp ahg atZ Bc).bind λe=>cond (e.1 !=0) (k ([[D.int .i64 e.1,D.str e.2.1,D.int .i64 e.2.2]])) (cond (abm==5) ((uO w w1 6 ahg 0 Bc 34).bind λn=>cond (aj n) (k n) none) (cond (abm==7) ((uO w w1 7 ahg 0 Bc 32).bind λr=>cond (aj r) (k r) none) (cond (abm==8) ((uO w w1 8 ahg 0 Bc 32).bind λq=>cond (aj q) (k q) none) (cond (abm==9) ((M.eY ajp).bind λK=>(idx Bc 0).bind λG=>(dG .i64 G 0).bind λQ=>(sH w w1 Q).bind λE=>M.G8 K E k) (cond (abm==10) ((idx Bc 0).bind λs=>(dG .i64 s 0).bind λB=>(sH w w1 B).bind λA=>(M.eY ajp).bind λj=>sW A [[D.int .i64 j.1,D.str j.2.1,D.int .i64 j.2.2]] 32 λza=>cond (aj za) (k za) none) (cond (abm==15) ((idx Bc 0).bind λH=>(dG .i64 H 0).bind λC=>(sH w w1 C).bind λx=>(M.eY ajp).bind λm=>sW x [[D.int .i64 m.1,D.str m.2.1,D.int .i64 m.2.2]] 32 λza=>(idx Bc 1).bind λy=>(dG .i64 y 0).bind λT=>(M.dw abm ajp ahg atZ Bc 1 p p1 p2 p3 p4).bind λb=>(bY w w1 T b.1 b.2.1 b.2.2.1 b.2.2.2.1 b.2.2.2.2).bind λI=>sW za I 32 λzb=>cond (aj zb) (k zb) none) (cond (abm==6) ((M.eY 68).bind λU=>(idx Bc 0).bind λN=>(dG .i64 N 0).bind λL=>(M.dw abm ajp ahg atZ Bc 0 p p1 p2 p3 p4).bind λa=>(bY w w1 L a.1 a.2.1 a.2.2.1 a.2.2.2.1 a.2.2.2.2).bind λV=>M.G8 U V k) (cond (abm==11) ((M.eY ajp).bind λO=>(idx Bc 0).bind λP=>(dG .i64 P 0).bind λJ=>(M.dw abm ajp ahg atZ Bc 0 p p1 p2 p3 p4).bind λc=>(bY w w1 J c.1 c.2.1 c.2.2.1 c.2.2.2.1 c.2.2.2.2).bind λt=>M.G8 O t k) (cond (abm==13) ((idx Bc 0).bind λv=>(dG .i64 v 0).bind λW=>(M.dw abm ajp ahg atZ Bc 0 p p1 p2 p3 p4).bind λd=>(bY w w1 W d.1 d.2.1 d.2.2.1 d.2.2.2.1 d.2.2.2.2).bind λu=>cond (decide ((↑Bc.length:Int)>1)) ((M.eY 32).bind λg=>(nJ w w1 Bc).bind λz=>sW [[D.int .i64 g.1,D.str g.2.1,D.int .i64 g.2.2]] z 32 λza=>(M.eY 33).bind λh=>sW za [[D.int .i64 h.1,D.str h.2.1,D.int .i64 h.2.2]] 32 λzb=>(M.eY 24).bind λf=>sW zb [[D.int .i64 f.1,D.str f.2.1,D.int .i64 f.2.2],[D.int .i64 6,D.str ahg,D.int .i64 0]] 32 λza=>cond (aj za) (k za) none) ((M.eY 24).bind λl=>sW u [[D.int .i64 l.1,D.str l.2.1,D.int .i64 l.2.2],[D.int .i64 6,D.str ahg,D.int .i64 0]] 32 λza=>cond (aj za) (k za) none)) ((CU w w1 abm ajp ahg atZ Bc p p1 p2 p3 p4).bind λo=>cond (aj o) (k o) none)))))))))))
def C.afp{uO:zax}{sH:zay}{bY:zae}{nJ:zan}{CU:zaz}(afq:S.Vt.ok X0 λx=>uO x.1.1.1 x.1.1.2.1 x.1.2.1.1 x.1.2.1.2.1 x.1.2.1.2.2.1 x.1.2.2.1 x.1.va.1)(adN:S.Uh.ok X0 λx=>sH x.1.1.1 x.1.1.2.1 x.1.2.1)(Gt:S.nZ.ok X0 λx=>eH (bY x.1.1.1 x.1.1.2.1 x.1.2.1) x.1.2.2.1)(Um:S.SY.ok X0 λx=>nJ x.1.1.1 x.1.1.2.1 x.1.2.1)(afr:S.Vu.ok X0 λx=>eH (eH (CU x.1.1.1 x.1.1.2.1) x.1.2.1) x.1.2.2.1):S.S9.ok X0 λx=>eH (M.EK uO sH bY nJ CU x.1.1.1 x.1.1.2.1 x.1.2.1) x.1.2.2.1 some:=fnS (λx=>M.EK uO sH bY nJ CU x.1.1.1 x.1.1.2.1 x.1.2.1 x.1.2.2.1.1 x.1.2.2.1.2.1 x.1.2.2.1.2.2.1 x.1.2.2.1.va.1 x.1.2.2.1.va.2.1) [fe C.lH,fe afq,fe C.eY,fe adN,fe C.dw,fe Gt,fe Um,fe afr] [] (by intros;unfold M.EK M.G8;exact zbJ)
abbrev M.KZ(eP:zae)(w:au)(w1:Bool)(i:Int)(k:au->Option R):=(M.eY 32).bind λb=>M.fO.bind λd=>(eP w w1 i d.1 d.2.1 d.2.2.1 d.2.2.2.1 d.2.2.2.2).bind λc=>cond ((([[D.int .i64 b.1,D.str b.2.1,D.int .i64 b.2.2]].length+c.length) * 32).ble 140737488355328) (cond (([[D.int .i64 b.1,D.str b.2.1,D.int .i64 b.2.2]].length+c.length).ble 140737488355328) ((M.eY 33).bind λa=>cond (((([[D.int .i64 b.1,D.str b.2.1,D.int .i64 b.2.2]]++c).length+[[D.int .i64 a.1,D.str a.2.1,D.int .i64 a.2.2]].length) * 32).ble 140737488355328) (cond ((([[D.int .i64 b.1,D.str b.2.1,D.int .i64 b.2.2]]++c).length+[[D.int .i64 a.1,D.str a.2.1,D.int .i64 a.2.2]].length).ble 140737488355328) (cond (aj ([[D.int .i64 b.1,D.str b.2.1,D.int .i64 b.2.2]]++c++[[D.int .i64 a.1,D.str a.2.1,D.int .i64 a.2.2]])) (k ([[D.int .i64 b.1,D.str b.2.1,D.int .i64 b.2.2]]++c++[[D.int .i64 a.1,D.str a.2.1,D.int .i64 a.2.2]])) none) none) none) none) none
abbrev M.QM(w1:Bool)(w:au)(i:Int)(eP:zae)(p:Int)(p1 p2 p3 p4:Bool)(k:au->Option R):=cond w1 ((idx w i).bind λa=>(dG .i64 a 0).bind λe=>(dG .i64 a 1).bind λl=>(cStr a 2).bind λh=>(cStr a 3).bind λc=>(cSl 1 a 4).bind λf=>(M.mQ e l h c f).bind λd=>cond (d==15) ((idx w i).bind λj=>(dG .i64 j 0).bind λg=>cond (g !=4) ((eP w w1 i p p1 p2 p3 p4).bind λb=>cond (aj b) (k b) none) (M.KZ eP w w1 i k)) (M.KZ eP w w1 i k)) (M.KZ eP w w1 i k)
def M.J3(eP:zae)(w:au)(w1:Bool)(i p:Int)(p1 p2 p3 p4:Bool)(k:au->Option R):=(idx w i).bind λb=>qh 1 b λaZo aZp aZq aZr aAt=>((M.kM aZo aZp aZq aZr aAt p p1 p2 p3 p4).bind λc=>cond c (cond (!w1) ((eP w w1 i p p1 p2 p3 p4).bind λa=>cond (aj a) (k a) none) (M.QM w1 w i eP p p1 p2 p3 p4 k)) (M.QM w1 w i eP p p1 p2 p3 p4 k))
def C.ajq{eP:zae}(Un:S.S9.ok X0 λx=>eH (eP x.1.1.1 x.1.1.2.1 x.1.2.1) x.1.2.2.1):S.nZ.ok X0 λx=>eH (M.J3 eP x.1.1.1 x.1.1.2.1 x.1.2.1) x.1.2.2.1 some:=fnS (λx=>M.J3 eP x.1.1.1 x.1.1.2.1 x.1.2.1 x.1.2.2.1.1 x.1.2.2.1.2.1 x.1.2.2.1.2.2.1 x.1.2.2.1.va.1 x.1.2.2.1.va.2.1) [fe C.kM,fe Un,fe C.mQ,fe C.eY,fe C.fO] [] (by intros;unfold M.J3 M.QM M.KZ;exact zbJ)
def M.xu:Nat->(zae)×(zan)×(zax)×(zay)×(zaz)×(zae):=Nat.rec (λ_ _ _ _ _ _ _ _=>none,λ_ _ _=>none,λ_ _ _ _ _ _ _=>none,λ_ _ _=>none,λ_ _ _ _ _ _ _ _ _ _ _ _=>none,λ_ _ _ _ _ _ _ _=>none) λ_ qz=>(λw w1 i p p1 p2 p3 p4=>M.J3 qz.2.2.2.2.2 w w1 i p p1 p2 p3 p4 some,λw w1 kids=>M.EI qz.1 w w1 kids some,λw w1 t' Gs RN kids open'=>M.BD qz.2.1 w w1 t' Gs RN kids open' some,λw w1 i=>M.EJ qz.2.2.2.2.2 w w1 i some,λw w1 n' kC lZ pX qG p p1 p2 p3 p4=>M.BF qz.1 w w1 n' kC lZ pX qG p p1 p2 p3 p4 some,λw w1 i p p1 p2 p3 p4=>M.EK qz.2.2.1 qz.2.2.2.1 qz.1 qz.2.1 qz.2.2.2.2.1 w w1 i p p1 p2 p3 p4 some)
def M.uP n:=(M.xu n).1
def M.Jk n:=(M.xu n).2.1
def M.LU n:=(M.xu n).2.2.1
def M.J4 n:=(M.xu n).2.2.2.1
def M.LV n:=(M.xu n).2.2.2.2.1
def M.EL n:=(M.xu n).2.2.2.2.2
def M.ama(n:Nat):M.uP (n+1)=λw w1 i p p1 p2 p3 p4=>M.J3 (M.EL n) w w1 i p p1 p2 p3 p4 some:=rfl
def M.ahi(n:Nat):M.Jk (n+1)=λw w1 kids=>M.EI (M.uP n) w w1 kids some:=rfl
def M.aft(n:Nat):M.LU (n+1)=λw w1 t' Gs RN kids open'=>M.BD (M.Jk n) w w1 t' Gs RN kids open' some:=rfl
def M.adO(n:Nat):M.J4 (n+1)=λw w1 i=>M.EJ (M.EL n) w w1 i some:=rfl
def M.afu(n:Nat):M.LV (n+1)=λw w1 n' kC lZ pX qG p p1 p2 p3 p4=>M.BF (M.uP n) w w1 n' kC lZ pX qG p p1 p2 p3 p4 some:=rfl
def M.ahj(n:Nat):M.EL (n+1)=λw w1 i p p1 p2 p3 p4=>M.EK (M.LU n) (M.J4 n) (M.uP n) (M.Jk n) (M.LV n) w w1 i p p1 p2 p3 p4 some:=rfl
def M.nZ w w1 i p p1 p2 p3 p4:=lim λn=>M.uP n w w1 i p p1 p2 p3 p4
def C.xu:∀n,(S.nZ.ok X0 λx=>eH (M.uP n x.1.1.1 x.1.1.2.1 x.1.2.1) x.1.2.2.1)/\(S.SY.ok X0 λx=>M.Jk n x.1.1.1 x.1.1.2.1 x.1.2.1)/\(S.Vt.ok X0 λx=>M.LU n x.1.1.1 x.1.1.2.1 x.1.2.1.1 x.1.2.1.2.1 x.1.2.1.2.2.1 x.1.2.2.1 x.1.va.1)/\(S.Uh.ok X0 λx=>M.J4 n x.1.1.1 x.1.1.2.1 x.1.2.1)/\(S.Vu.ok X0 λx=>eH (eH (M.LV n x.1.1.1 x.1.1.2.1) x.1.2.1) x.1.2.2.1)/\(S.S9.ok X0 λx=>eH (M.EL n x.1.1.1 x.1.1.2.1 x.1.2.1) x.1.2.2.1)
 |0=>⟨dJ.zero,dJ.zero,dJ.zero,dJ.zero,dJ.zero,dJ.zero⟩
 |n+1=>have h:=C.xu n;⟨C.ajq h.2.2.2.2.2,C.afo h.1,C.adL h.2.1,C.acj h.2.2.2.2.2,C.adM h.1,C.afp h.2.2.1 h.2.2.2.1 h.1 h.2.1 h.2.2.2.2.1⟩
def C.nZ:S.nZ.ok X0 λx=>eH (M.nZ x.1.1.1 x.1.1.2.1 x.1.2.1) x.1.2.2.1:=dJ.lim λn=>(C.xu n).1
def M.ajr{n:Nat}{w:au}{w1:Bool}{i p:Int}{p1 p2 p3 p4:Bool}{r:au}(h:M.uP n w w1 i p p1 p2 p3 p4=some r):M.nZ w w1 i p p1 p2 p3 p4=some r:=dJ.sF (λn=>(C.xu n).1) (by intro a b h;simp[S.nZ,rk,sg] at h;first|exact h|simp[Prod.ext_iff,h]) (x:=(((w,w1,()),i,(p,p1,p2,p3,p4,()),()),())) h
abbrev M.Ij(l:au)(k:au->Option R):=(M.oW l).bind λc=>cond (!c) (k []) ((idx l (i64.wrap ((↑l.length:Int) - 1))).bind λd=>(dG .i64 d 0).bind λe=>cond (e==16) (k []) (M.fO.bind λa=>(M.nZ l true (i64.wrap ((↑l.length:Int) - 1)) a.1 a.2.1 a.2.2.1 a.2.2.2.1 a.2.2.2.2).bind λb=>cond (aj b) (k b) none))
def M.vI l:=M.Ij l some
def C.vI:=fTa S.vI (λx=>M.Ij x.1.1) [fe C.oW,fe C.fO,fe C.nZ]
abbrev M.Ik(l:au)(p:Int)(p1 p2 p3 p4:Bool)(k:au->Option R):=(M.oW l).bind λc=>cond (!c) (k []) ((M.pz p p1 p2 p3 p4).bind λe=>cond (!e) (k []) ((idx l (i64.wrap ((↑l.length:Int) - 1))).bind λb=>(dG .i64 b 0).bind λd=>cond (d==16) (k []) ((M.nZ l false (i64.wrap ((↑l.length:Int) - 1)) p p1 p2 p3 p4).bind λa=>cond (aj a) (k a) none)))
def M.vJ l p p1 p2 p3 p4:=M.Ik l p p1 p2 p3 p4 some
def C.vJ:=fTa S.vJ (λx=>M.Ik x.1.1 x.1.2.1.1 x.1.2.1.2.1 x.1.2.1.2.2.1 x.1.2.1.va.1 x.1.2.1.va.2.1) [fe C.oW,fe C.pz,fe C.nZ]
abbrev M.QN(c:au)(c1 c2:Int)(k:au×au×Int×Int->Option R):=(M.bT 3 c c1 c2).bind λa=>cond (a.1==0) ((M.zA 12 a.2.1 a.2.2.1 a.2.2.2).bind λd=>cond (aj d.1) (k (d.1,d.2.1,d.2.2.1,d.2.2.2)) none) (cond (a.1==1) ((M.BO a.2.1 a.2.2.1 a.2.2.2).bind λe=>(M.vI (aF e.1)).bind λg=>cond ([[D.sl true 3 g]].all lU) (cond (aj g) (k (g,e.2.1,e.2.2.1,e.2.2.2)) none) none) ((M.BO a.2.1 a.2.2.1 a.2.2.2).bind λf=>M.fO.bind λb=>(M.vJ (aF f.1) b.1 b.2.1 b.2.2.1 b.2.2.2.1 b.2.2.2.2).bind λh=>cond ([[D.sl true 3 h]].all lU) (cond (aj h) (k (h,f.2.1,f.2.2.1,f.2.2.2)) none) none))
def M.FU c c1 c2:=M.QN c c1 c2 some
def C.FU:=fTa S.FU (λx=>M.QN x.2.1.1 x.2.1.2.1 x.2.1.2.2.1) [fe C.bT,fe C.zA,fe C.BO,fe C.vI,fe C.fO,fe C.vJ]
abbrev M.J5(c:au)(c1 c2:Int)(k:au×au×Int×Int->Option R):=(M.FU c c1 c2).bind λd=>cond (decide ((↑d.1.length:Int)>0)) ((M.gZ 5 d.2.1 d.2.2.1 d.2.2.2).bind λf=>cond f.1 ((M.bT ((↑d.1.length:Int)) f.2.1 f.2.2.1 f.2.2.2).bind λa=>(M.bT 4 a.2.1 a.2.2.1 a.2.2.2).bind λb=>cond (b.1==0) (cond (decide (0<=a.1) && decide (a.1<=(↑d.1.length:Int))) (cond (aj (List.take a.1.toNat d.1)) (k (List.take a.1.toNat d.1,b.2.1,b.2.2.1,b.2.2.2)) none) none) (cond (b.1==1) ((M.pR b.2.1 b.2.2.1 b.2.2.2).bind λe=>(idx d.1 a.1).bind λo=>d.1[a.1.toNat]?.bind λj=>cond (aj (d.1.set a.1.toNat (splice j 0 [D.int .i64 e.1,D.str e.2.1,D.int .i64 e.2.2.1]))) (k (d.1.set a.1.toNat (splice j 0 [D.int .i64 e.1,D.str e.2.1,D.int .i64 e.2.2.1]),e.2.2.2.1,e.2.2.2.2.1,e.2.2.2.2.2)) none) (cond (b.1==2) ((cut d.1 0 a.1).bind λi=>cond (((0+i.length) * 32).ble 140737488355328) (cond ((0+i.length).ble 140737488355328) ((M.pR b.2.1 b.2.2.1 b.2.2.2).bind λg=>sW i [[D.int .i64 g.1,D.str g.2.1,D.int .i64 g.2.2.1]] 32 λza=>(cut d.1 a.1 (↑d.1.length:Int)).bind λl=>sW za l 32 λn=>cond (aj n) (k (n,g.2.2.2.1,g.2.2.2.2.1,g.2.2.2.2.2)) none) none) none) ((cut d.1 0 a.1).bind λh=>cond (((0+h.length) * 32).ble 140737488355328) (cond ((0+h.length).ble 140737488355328) ((cut d.1 (i64.wrap (a.1+1)) (↑d.1.length:Int)).bind λm=>sW h m 32 λza=>cond (aj za) (k (za,b.2.1,b.2.2.1,b.2.2.2)) none) none) none)))) (cond (aj d.1) (k (d.1,f.2.1,f.2.2.1,f.2.2.2)) none)) (cond (aj d.1) (k (d.1,d.2.1,d.2.2.1,d.2.2.2)) none)
def M.oG c c1 c2:=M.J5 c c1 c2 some
def C.oG:=fTa S.oG (λx=>M.J5 x.2.1.1 x.2.1.2.1 x.2.1.2.2.1) [fe C.FU,fe C.gZ,fe C.bT,fe C.pR]
def M.xM(s:Int×au×Int×Int×au)(kn:Int×au×Int×Int×au->Option R)(ke:Int×au×Int×Int×au->Option R):Option R:=match s with
 |(n',x',jl,kW,nT)=>bif decide (n'>0) then((M.jV ([[D.int .i64 32],[D.int .i64 34],[D.int .i64 30],[D.int .i64 32],[D.int .i64 33]]) x' jl kW).bind λa=>(M.eY a.1).bind λb=>sW nT [[D.int .i64 b.1,D.str b.2.1,D.int .i64 b.2.2]] 32 λc=>kn (i64.wrap (n' - 1),a.2.1,a.2.2.1,a.2.2.2,c)) else ke (n',x',jl,kW,nT)
def M.Jl s:=M.xM s (λs=>some (Sum.inl s)) λt=>some (Sum.inr t)
def M.wM s:=dU (M.Jl) s
def F.wM:LE X0 16:=le 5 (I5 [cu 3 (pP 300000 0),cu 4 (pO 300001 0),cu 5 pI] [cu 300000 (cB 90 zbC),cu 300001 zby]) (λx=>(x.1.2.2.1,x.2.1.1,x.2.1.2.1,x.2.1.2.2.1,x.2.2.1)) (λx s=>(((),(),s.1,()),((s.2.1,s.2.2.1,s.va.1,()),s.va.2,()))) (λx=> .leaf zaP (λt=>(Ex.exit 0,⟨[(3,V.ptr 300000 0),(4,V.own 300001 0),(5,iK t.1),(16,jO false)],[(300000,Cell.box 90 [wB 1 t.2.1,iK t.2.2.1,iK t.va.1]),(300001,Cell.arr false true 0 3 t.va.2)]⟩))) (λx=>M.xM) [fe C.jV,fe C.eY] [] (by rintro _ _ ⟨_,_,_,_,_⟩ _ _<;>simp only[sW,M.xM,nb]<;>rfl)
abbrev M.Il(code:au)(k:au->Option R):=(M.DU code).bind λd=>(M.oG d.1 d.2.1 d.2.2).bind λa=>(M.gZ 3 a.2.1 a.2.2.1 a.2.2.2).bind λb=>cond b.1 ((M.bT 20 b.2.1 b.2.2.1 b.2.2.2).bind λc=>(M.wM (i64.wrap (30+c.1),c.2.1,c.2.2.1,c.2.2.2,a.1)).bind λe=>cond (aj e.2.2.2.2) (k e.2.2.2.2) none) (cond (aj a.1) (k a.1) none)
def M.vK code:=M.Il code some
def C.vK:=fTa S.vK (λx=>M.Il x.1.1) [fe C.DU,fe C.oG,fe C.gZ,fe C.bT] [F.wM]
abbrev M.Tq(c:au)(c1 c2:Int)(k:Int×Bool×Bool×Bool×Bool×au×Int×Int->Option R):=(M.bT 15 c c1 c2).bind λf=>(M.gZ 4 f.2.1 f.2.2.1 f.2.2.2).bind λd=>(M.gZ 4 d.2.1 d.2.2.1 d.2.2.2).bind λb=>(M.gZ 4 b.2.1 b.2.2.1 b.2.2.2).bind λe=>(M.bT 12 e.2.1 e.2.2.1 e.2.2.2).bind λa=>cond (a.1==0) ((M.jV ([[D.int .i64 0],[D.int .i64 16],[D.int .i64 (-1)]]) a.2.1 a.2.2.1 a.2.2.2).bind λg=>k (g.1,false,d.1,b.1,e.1,g.2.1,g.2.2.1,g.2.2.2)) (cond (a.1==1) (k (i64.wrap (1+f.1),true,d.1,b.1,e.1,a.2.1,a.2.2.1,a.2.2.2)) (cond (a.1==2) (k (14,true,d.1,b.1,e.1,a.2.1,a.2.2.1,a.2.2.2)) (cond (a.1==3) (k (1,false,d.1,b.1,e.1,a.2.1,a.2.2.1,a.2.2.2)) (cond (a.1==4) (k (1,false,d.1,b.1,e.1,a.2.1,a.2.2.1,a.2.2.2)) (cond (a.1==5) (k (1,false,d.1,b.1,e.1,a.2.1,a.2.2.1,a.2.2.2)) (k (i64.wrap (1+f.1),false,d.1,b.1,e.1,a.2.1,a.2.2.1,a.2.2.2)))))))
def M.Gi c c1 c2:=M.Tq c c1 c2 some
def C.Gi:=fTa S.Gi (λx=>M.Tq x.2.1.1 x.2.1.2.1 x.2.1.2.2.1) [fe C.bT,fe C.gZ,fe C.jV]
def M.tq(code:au)(x':Int)(jl kW nT oO:Bool)(rY:au)(sV xO:Int)(s:Int×au)(kn:Int×au->Option R)(ke:Int×au->Option R):Option R:=match s with
 |(i,xw)=>bif decide (i<(↑xw.length:Int)) then((idx xw i).bind λb=>xw[i.toNat]?.bind λa=>kn (i64.wrap (i+1),xw.set i.toNat (splice a 2 [D.int .i64 (i64.wrap (2 * i))]))) else ke (i,xw)
def M.EM code x' jl kW nT oO rY sV xO s:=M.tq code x' jl kW nT oO rY sV xO s (λs=>some (Sum.inl s)) λt=>some (Sum.inr t)
def M.rG code x' jl kW nT oO rY sV xO s:=dU (M.EM code x' jl kW nT oO rY sV xO) s
def F.rG:LE X0 6:=le 4 (I5 [cu 0 (pL false 1),cu 3 (pP 300000 0),cu 4 (pP 300001 0),cu 5 (pO 300002 0),cu 6 pI] [cu 300000 (cB 26 zbs),cu 300001 (cB 90 zbC),cu 300002 zby]) (λx=>(x.1.va.2.1,x.va.1)) (λx s=>((x.1.1,(),(),(),s.1,()),((x.2.1.1,x.2.1.2.1,x.2.1.2.2.1,x.2.1.va.1,x.2.1.va.2.1,()),(x.2.2.1.1,x.2.2.1.2.1,x.2.2.1.2.2.1,()),s.2,()))) (λx=> .leaf (Int×au) (λt=>(Ex.exit 0,⟨[(0,wB 1 x.1.1),(3,V.ptr 300000 0),(4,V.ptr 300001 0),(5,V.own 300002 0),(6,iK t.1),(14,jO false)],[(300000,Cell.box 26 [iK x.2.1.1,jO x.2.1.2.1,jO x.2.1.2.2.1,jO x.2.1.va.1,jO x.2.1.va.2.1]),(300001,Cell.box 90 [wB 1 x.2.2.1.1,iK x.2.2.1.2.1,iK x.2.2.1.2.2.1]),(300002,Cell.arr false true 0 3 t.2)]⟩))) (λx=>M.tq x.1.1 x.2.1.1 x.2.1.2.1 x.2.1.2.2.1 x.2.1.va.1 x.2.1.va.2.1 x.2.2.1.1 x.2.2.1.2.1 x.2.2.1.2.2.1) [] [] (by rintro _ _ ⟨_,_⟩ _ _<;>unfold M.tq<;>exact zbJ)
abbrev M.CV(code:au)(k:au×Int×Bool×Bool×Bool×Bool->Option R):=(M.DU code).bind λl=>(M.oG l.1 l.2.1 l.2.2).bind λb=>(M.rG code 0 false false false false b.2.1 b.2.2.1 b.2.2.2 (0,b.1)).bind λh=>(M.gZ 12 b.2.1 b.2.2.1 b.2.2.2).bind λa=>cond a.1 ((M.vK code).bind λi=>(M.gZ 2 a.2.1 a.2.2.1 a.2.2.2).bind λg=>cond g.1 (M.fO.bind λc=>cond (aj i) (k (i,c)) none) ((M.Gi g.2.1 g.2.2.1 g.2.2.2).bind λe=>cond (aj i) (k (i,e.1,e.2.1,e.2.2.1,e.2.2.2.1,e.2.2.2.2.1)) none)) ((M.gZ 2 a.2.1 a.2.2.1 a.2.2.2).bind λj=>cond j.1 (M.fO.bind λd=>cond (aj h.2) (k (h.2,d)) none) ((M.Gi j.2.1 j.2.2.1 j.2.2.2).bind λf=>cond (aj h.2) (k (h.2,f.1,f.2.1,f.2.2.1,f.2.2.2.1,f.2.2.2.2.1)) none))
def M.qj code:=M.CV code some
def C.qj:=fTa S.qj (λx=>M.CV x.1.1) [fe C.DU,fe C.oG,fe C.gZ,fe C.vK,fe C.fO,fe C.Gi] [F.rG]
abbrev M.D8(n' low high:Int)(k:Bool->Option R):=cond (decide (n'>=low)) (k (decide (n'<=high))) (k false)
def M.dM n' low high:=M.D8 n' low high some
def C.dM:=fTa S.dM (λx=>M.D8 x.1.1 x.1.2.1 x.1.2.2.1)
abbrev M.Tt(p:Int)(p1 p2 p3 p4:Bool)(k:Bool->Option R):=(M.dM p 1 15).bind λa=>cond a (cond (!p1) (k true) (k (p==14))) (k false)
def M.Je p p1 p2 p3 p4:=M.Tt p p1 p2 p3 p4 some
def C.Je:=fTa S.Je (λx=>M.Tt x.1.1.1 x.1.1.2.1 x.1.1.2.2.1 x.1.1.va.1 x.1.1.va.2.1) [fe C.dM]
def C.strings_Contains:S.strings_Contains.ok X0 λx=>M.strings_Contains x.1.1 x.1.2.1:=dJ.VO (p:=Prim.strings_Contains)
abbrev M.QO(s':aI)(at':Int)(k:Int->Option R):=(M.dM at' 0 (i64.wrap ((↑s'.length:Int) - 1))).bind λb=>cond (!b) (k (-1)) ((idx s' at').bind λa=>k (i64.wrap (↑a.toNat:Int)))
def M.nU s' at':=M.QO s' at' some
def C.nU:=fTa S.nU (λx=>M.QO x.1.1 x.1.2.1) [fe C.dM]
abbrev M.Oh(b:Int)(k:Bool->Option R):=cond (decide (b>=48)) (k (decide (b<=57))) (k false)
def M.xg b:=M.Oh b some
def C.xg:=fTa S.xg (λx=>M.Oh x.1.1)
def M.Eh(s':aI)(s:Int)(kn:Int->Option R)(ke:Int->Option R):Option R:=match s with
 |at'=>(M.nU s' at').bind λb=>(M.xg b).bind λa=>bif a then(kn (i64.wrap (at'+1))) else ke at'
def M.Sv s' s:=M.Eh s' s (λs=>some (Sum.inl s)) λt=>some (Sum.inr t)
def M.Io s' s:=dU (M.Sv s') s
def F.Io:LE X0 212:=le 1 (I5 [cu 0 pS,cu 1 pI] []) (λx=>x.1.2.1) (λx s=>((x.1.1,s,()),())) (λx=> .leaf (Int) (λt=>(Ex.exit 0,⟨[(0,KI x.1.1),(1,iK t),(8,jO false)],[]⟩))) (λx=>M.Eh x.1.1) [fe C.nU,fe C.xg] [] (by rintro _ _ _ _ _<;>simp only[M.Eh,nb]<;>rfl)
abbrev M.J6(s':aI)(at':Int)(k:Int->Option R):=(M.Io s' at').bind λa=>k a
def M.iJ s' at':=M.J6 s' at' some
def C.iJ:=fTa S.iJ (λx=>M.J6 x.1.1 x.1.2.1) [] [F.Io]
abbrev M.EN(s':aI)(ZW:Int)(k:Int->Option R):=(M.nU s' (i64.wrap (ZW+1))).bind λd=>cond (d==43) ((M.iJ s' (i64.wrap (i64.wrap (ZW+1)+1))).bind λa=>cond (decide (a>i64.wrap (i64.wrap (ZW+1)+1))) (k a) (k ZW)) (cond (d==45) ((M.iJ s' (i64.wrap (i64.wrap (ZW+1)+1))).bind λc=>cond (decide (c>i64.wrap (i64.wrap (ZW+1)+1))) (k c) (k ZW)) ((M.iJ s' (i64.wrap (ZW+1))).bind λb=>cond (decide (b>i64.wrap (ZW+1))) (k b) (k ZW)))
def M.QS(s':aI)(at':Int)(k:Int->Option R):=(M.dM at' 0 (i64.wrap ((↑s'.length:Int) - 1))).bind λf=>cond (!f) (k (-1)) ((M.iJ s' at').bind λa=>(M.nU s' a).bind λe=>cond (e==46) ((M.iJ s' (i64.wrap (a+1))).bind λc=>cond (i64.wrap (i64.wrap (a - at')+i64.wrap (i64.wrap (c - a) - 1))==0) (k (-1)) ((M.nU s' c).bind λd=>cond (d==101) (M.EN s' c k) (cond (d==69) (M.EN s' c k) (k c)))) (cond (i64.wrap (a - at')==0) (k (-1)) ((M.nU s' a).bind λb=>cond (b==101) (M.EN s' a k) (cond (b==69) (M.EN s' a k) (k a)))))
def M.FV s' at':=M.QS s' at' some
def C.FV:S.FV.ok X0 λx=>M.FV x.1.1 x.1.2.1:=fnS (λx=>M.QS x.1.1 x.1.2.1) [fe C.dM,fe C.iJ,fe C.nU] [] (by intros;unfold M.QS M.EN;exact zbJ)
def M.vg(s':aI)(quote s:Int)(kn:Int->Option R)(ke:(Int)⊕(Int)->Option R):Option R:=match s with
 |i=>bif decide (i<(↑s'.length:Int)) then((idx s' i).bind λd=>bif(↑d.toNat:Int) !=10 then((idx s' i).bind λb=>bif i64.wrap (↑b.toNat:Int)==quote then(ke (.inl (i64.wrap (i+1)))) else (idx s' i).bind λa=>bif(↑a.toNat:Int)==92 then((M.nU s' (i64.wrap (i+1))).bind λc=>bif c !=10 then(kn (i64.wrap (i64.wrap (i+1)+1))) else kn (i64.wrap (i+1))) else kn (i64.wrap (i+1))) else ke (.inr i)) else ke (.inr i)
def M.yY s' quote s:=M.vg s' quote s (λs=>some (Sum.inl s)) λt=>some (Sum.inr t)
def M.uQ s' quote s:=dU (M.yY s' quote) s
def F.uQ:LE X0 214:=le 4 (I5 [cu 0 pS,cu 2 pI,cu 7 pI] []) (λx=>x.1.2.2.1) (λx s=>((x.1.1,x.1.2.1,s,()),())) (λx=> .sum (.leaf (Int) (λt=>(Ex.ret,⟨[(6,iK t)],[]⟩))) (.leaf (Int) (λt=>(Ex.exit 0,⟨[(0,KI x.1.1),(2,iK x.1.2.1),(7,iK t),(24,jO false)],[]⟩)))) (λx=>M.vg x.1.1 x.1.2.1) [fe C.nU] [] (by rintro _ _ _ _ _<;>simp only[M.vg,nb]<;>rfl)
abbrev M.J7(s':aI)(at' quote:Int)(k:Int->Option R):=(M.nU s' at').bind λd=>cond (d !=quote) (k (-1)) ((M.uQ s' quote (i64.wrap (at'+1))).bind λb=>kT b (λa=>k a) λc=>letE c λe=>k (-1))
def M.rQ s' at' quote:=M.J7 s' at' quote some
def C.rQ:=fTa S.rQ (λx=>M.J7 x.1.1 x.1.2.1 x.1.2.2.1) [fe C.nU] [F.uQ]
abbrev M.QT(s':aI)(at':Int)(k:Int->Option R):=(M.rQ s' at' 34).bind λa=>k a
def M.FW s' at':=M.QT s' at' some
def C.FW:=fTa S.FW (λx=>M.QT x.1.1 x.1.2.1) [fe C.rQ]
abbrev M.QU(s':aI)(at':Int)(k:Int->Option R):=(M.rQ s' at' 47).bind λa=>cond (a==i64.wrap (at'+2)) (k (-1)) (k a)
def M.FX s' at':=M.QU s' at' some
def C.FX:=fTa S.FX (λx=>M.QU x.1.1 x.1.2.1) [fe C.rQ]
abbrev M.LW(b:Int)(k:Bool->Option R):=cond (decide (b>=97)) (cond (decide (b<=122)) (k true) (cond (decide (b>=65)) (cond (decide (b<=90)) (k true) (k (b==95))) (k (b==95)))) (cond (decide (b>=65)) (cond (decide (b<=90)) (k true) (k (b==95))) (k (b==95)))
def M.uh b:=M.LW b some
def C.uh:=fTa S.uh (λx=>M.LW x.1.1)
abbrev M.Ip(b:Int)(k:Bool->Option R):=(M.uh b).bind λa=>cond a (k true) ((M.xg b).bind λc=>k c)
def M.vM b:=M.Ip b some
def C.vM:=fTa S.vM (λx=>M.Ip x.1.1) [fe C.uh,fe C.xg]
def M.yZ(s':aI)(v5 s:Int)(kn:Int->Option R)(ke:(Unit)⊕(Int)->Option R):Option R:=match s with
 |v6=>bif decide (v6<v5) then((idx s' v6).bind λb=>(M.vM (i64.wrap (↑b.toNat:Int))).bind λa=>bif !a then(ke (.inl ())) else kn (i64.wrap (v6+1))) else ke (.inr v6)
def M.Ei s' v5 s:=M.yZ s' v5 s (λs=>some (Sum.inl s)) λt=>some (Sum.inr t)
def M.Iq s' v5 s:=dU (M.Ei s' v5) s
def F.Iq:LE X0 215:=le 2 (I5 [cu 0 pS,cu 5 pI,cu 6 pI] []) (λx=>x.1.2.2.1) (λx s=>((x.1.1,x.1.2.1,s,()),())) (λx=> .sum (.leaf (Unit) (λt=>(Ex.ret,⟨[(2,jO false)],[]⟩))) (.leaf (Int) (λt=>(Ex.exit 0,⟨[(0,KI x.1.1),(5,iK x.1.2.1),(6,iK t),(7,jO false)],[]⟩)))) (λx=>M.yZ x.1.1 x.1.2.1) [fe C.vM] [] (by rintro _ _ _ _ _<;>simp only[M.yZ,nb]<;>rfl)
abbrev M.J8(s':aI)(k:Bool->Option R):=(M.Iq s' ((↑s'.length:Int)) 0).bind λd=>kT d (λg=>k false) λb=>letE b λf=>(M.dM ((↑s'.length:Int)) 1 12).bind λc=>cond c ((idx s' 0).bind λa=>(M.uh (i64.wrap (↑a.toNat:Int))).bind λe=>k e) (k false)
def M.xG s':=M.J8 s' some
def C.xG:=fTa S.xG (λx=>M.J8 x.1.1) [fe C.dM,fe C.uh] [F.Iq]
def M.CW(s':au)(v:aI)(v7 s:Int)(kn:Int->Option R)(ke:(Int)⊕(Int)->Option R):Option R:=match s with
 |v8=>bif decide (v8<v7) then((idx s' v8).bind λa=>(cStr a 0).bind λb=>bif v==b then(ke (.inl v8)) else kn (i64.wrap (v8+1))) else ke (.inr v8)
def M.Ir s' v v7 s:=M.CW s' v v7 s (λs=>some (Sum.inl s)) λt=>some (Sum.inr t)
def M.LX s' v v7 s:=dU (M.Ir s' v v7) s
def F.LX:LE X0 233:=le 2 (I5 [cu 0 (pL false 1),cu 1 pS,cu 7 pI,cu 8 pI] []) (λx=>x.1.va.1) (λx s=>((x.1.1,x.1.2.1,x.1.2.2.1,s,()),())) (λx=> .sum (.leaf (Int) (λt=>(Ex.ret,⟨[(4,iK t)],[]⟩))) (.leaf (Int) (λt=>(Ex.exit 0,⟨[(0,wB 1 x.1.1),(1,KI x.1.2.1),(7,iK x.1.2.2.1),(8,iK t),(9,jO false)],[]⟩)))) (λx=>M.CW x.1.1 x.1.2.1 x.1.2.2.1) [] [] (by rintro _ _ _ _ _<;>simp only[M.CW,nb]<;>rfl)
abbrev M.Oi(s':au)(v:aI)(k:Int->Option R):=(M.LX s' v ((↑s'.length:Int)) 0).bind λc=>kT c (λb=>k b) λa=>letE a λd=>k (-1)
def M.slices_Index s' v:=M.Oi s' v some
def C.slices_Index:=fTa S.slices_Index (λx=>M.Oi x.1.1 x.1.2.1) [] [F.LX]
abbrev M.J9(s':aI)(k:Int->Option R):=(M.slices_Index (List.map (λx=>[x]) FI) s').bind λa=>cond (decide (a<0)) (k 0) (k (i64.wrap (10+a)))
def M.xH s':=M.J9 s' some
def C.xH:=fTa S.xH (λx=>M.J9 x.1.1) [fe C.slices_Index]
abbrev M.Iu(s':au)(v:aI)(k:Bool->Option R):=(M.slices_Index s' v).bind λa=>k (decide (a>=0))
def M.slices_Contains(s':au)(v:aI):Option (Bool):=M.Iu s' v some
def C.slices_Contains:=fTa S.slices_Contains (λx=>M.Iu x.1.1 x.1.2.1) [fe C.slices_Index]
abbrev M.Ko(s':aI)(k:Bool->Option R):=(M.slices_Contains (List.map (λx=>[x]) Nu) s').bind λa=>k a
def M.oH s':=M.Ko s' some
def C.oH:=fTa S.oH (λx=>M.Ko x.1.1) [fe C.slices_Contains]
abbrev M.QV(s':aI)(k:Bool->Option R):=(M.xG s').bind λc=>cond c ((M.xH s').bind λa=>cond (a==0) ((M.oH s').bind λb=>k !b) (k false)) (k false)
def M.kN s':=M.QV s' some
def C.kN:=fTa S.kN (λx=>M.QV x.1.1) [fe C.xG,fe C.xH,fe C.oH]
abbrev M.CX(kind:Int)(k:Bool->Option R):=(M.dM kind 10 26).bind λa=>k a
def M.sG kind:=M.CX kind some
def C.sG:=fTa S.sG (λx=>M.CX x.1.1) [fe C.dM]
abbrev M.Iw(kind:Int)(k:Bool->Option R):=(M.dM kind 30 68).bind λa=>k a
def M.yL kind:=M.Iw kind some
def C.yL:=fTa S.yL (λx=>M.Iw x.1.1) [fe C.dM]
abbrev M.Oj(kind:Int)(k:aI->Option R):=cond (kind==1) (k [10]) ((M.sG kind).bind λa=>cond a (cond (decide (0<=i64.wrap (kind - 10)) && decide (i64.wrap (kind - 10)<17)) ((cStr FI (0+(i64.wrap (kind - 10)).toNat * 1)).bind λc=>k c) none) ((M.yL kind).bind λd=>cond d (cond (decide (0<=i64.wrap (kind - 30)) && decide (i64.wrap (kind - 30)<39)) ((cStr Wq (0+(i64.wrap (kind - 30)).toNat * 1)).bind λb=>k b) none) (k [])))
def M.BR kind:=M.Oj kind some
def C.BR:=fTa S.BR (λx=>M.Oj x.1.1) [fe C.sG,fe C.yL]
abbrev M.Ol(t':Int)(Gs:aI)(RN:Int)(k:Bool->Option R):=cond (Gs==[]) (k false) (cond (t'==2) ((idx Gs 0).bind λa=>cond ((↑a.toNat:Int)==35) ((M.strings_Contains Gs [10]).bind λe=>k !e) (k false)) (cond (t'==3) ((M.FV Gs 0).bind λf=>k (f==(↑Gs.length:Int))) (cond (t'==4) ((M.FW Gs 0).bind λi=>k (i==(↑Gs.length:Int))) (cond (t'==5) ((M.FX Gs 0).bind λc=>k (c==(↑Gs.length:Int))) (cond (t'==6) ((M.kN Gs).bind λd=>k d) (cond (t'==7) ((M.kN Gs).bind λg=>k g) (cond (t'==8) ((M.oH Gs).bind λb=>k b) ((M.BR t').bind λh=>k (Gs==h)))))))))
def M.lI t' Gs RN:=M.Ol t' Gs RN some
def C.lI:=fTa S.lI (λx=>M.Ol x.1.1.1 x.1.1.2.1 x.1.1.2.2.1) [fe C.strings_Contains,fe C.FV,fe C.FW,fe C.FX,fe C.kN,fe C.oH,fe C.BR]
abbrev M.Gu(kind:Int)(k:Bool->Option R):=cond (kind==3) (k true) (cond (kind==4) (k true) (cond (kind==5) (k true) (cond (kind==6) (k true) (cond (kind==8) (k true) (cond (kind==33) (k true) (cond (kind==35) (k true) (cond (kind==51) (k true) (cond (kind==52) (k true) (k false)))))))))
def M.kZ kind:=M.Gu kind some
def C.kZ:=fTa S.kZ (λx=>M.Gu x.1.1)
abbrev M.jE(P9 before:Int)(ke:(Unit)⊕(Int×Int)->Option R)(kn:Int×Int->Option R)(v12:Int):=cond (P9==5) ((M.kZ before).bind λd=>cond d (ke (.inl ())) (cond (P9==58) ((M.kZ before).bind λe=>cond (!e) (ke (.inl ())) (kn (P9,i64.wrap (v12+1)))) (cond (P9==41) ((M.kZ before).bind λa=>cond (!a) (ke (.inl ())) (kn (P9,i64.wrap (v12+1)))) (kn (P9,i64.wrap (v12+1)))))) (cond (P9==58) ((M.kZ before).bind λb=>cond (!b) (ke (.inl ())) (kn (P9,i64.wrap (v12+1)))) (cond (P9==41) ((M.kZ before).bind λc=>cond (!c) (ke (.inl ())) (kn (P9,i64.wrap (v12+1)))) (kn (P9,i64.wrap (v12+1)))))
def M.Ah(l v10:au)(v11:Int)(s:Int×Int)(kn:Int×Int->Option R)(ke:(Unit)⊕(Int×Int)->Option R):Option R:=match s with
 |(before,v12)=>bif decide (v12<v11) then((idx v10 v12).bind λc=>(dG .i64 c 0).bind λa=>(cStr c 1).bind λd=>(dG .i64 c 2).bind λe=>bif decide (i64.wrap (v12+1)<(↑l.length:Int)) then((idx l (i64.wrap (v12+1))).bind λh=>(dG .i64 h 0).bind λb=>(M.lI a d e).bind λf=>bif !f then(ke (.inl ())) else bif a==7 then(bif b !=32 then(ke (.inl ())) else bif a==2 then(bif b !=1 then(bif b !=0 then(ke (.inl ())) else M.jE a before ke kn v12) else M.jE a before ke kn v12) else M.jE a before ke kn v12) else bif a==2 then(bif b !=1 then(bif b !=0 then(ke (.inl ())) else M.jE a before ke kn v12) else M.jE a before ke kn v12) else M.jE a before ke kn v12) else (M.lI a d e).bind λg=>bif !g then(ke (.inl ())) else bif a==7 then(ke (.inl ())) else bif a==2 then(M.jE a before ke kn v12) else M.jE a before ke kn v12) else ke (.inr (before,v12))
def M.Ai l v10 v11 s:=M.Ah l v10 v11 s (λs=>some (Sum.inl s)) λt=>some (Sum.inr t)
def M.Kq l v10 v11 s:=dU (M.Ai l v10 v11) s
def F.Kq:LE X0 51:=le 5 (I5 [cu 0 (pL false 3),cu 3 pI,cu 10 (pL false 3),cu 11 pI,cu 12 pI] []) (λx=>(x.1.2.1,x.1.va.2.1)) (λx s=>((x.1.1,s.1,x.1.2.2.1,x.1.va.1,s.2,()),())) (λx=> .sum (.leaf (Unit) (λt=>(Ex.ret,⟨[(2,jO false)],[]⟩))) (.leaf (Int×Int) (λt=>(Ex.exit 0,⟨[(0,wB 3 x.1.1),(3,iK t.1),(10,wB 3 x.1.2.2.1),(11,iK x.1.va.1),(12,iK t.2),(13,jO false)],[]⟩)))) (λx=>M.Ah x.1.1 x.1.2.2.1 x.1.va.1) [fe C.lI,fe C.kZ] [] (by rintro _ _ ⟨_,_⟩ _ _<;>unfold M.Ah M.jE<;>exact zbJ)
abbrev M.LY(l:au)(k:Bool->Option R):=cond (decide ((↑l.length:Int)>3000)) (k false) ((M.Kq l l ((↑l.length:Int)) (0,0)).bind λb=>kT b (λd=>k false) λa=>letE a λc=>k true)
def M.zC l:=M.LY l some
def C.zC:=fTa S.zC (λx=>M.LY x.1.1) [] [F.Kq]
abbrev M.Om(kind:Int)(k:Bool->Option R):=cond (kind==32) (k true) (cond (kind==34) (k true) (k (kind==30)))
def M.yM kind:=M.Om kind some
def C.yM:=fTa S.yM (λx=>M.Om x.1.1)
abbrev M.Oo(kind:Int)(k:Bool->Option R):=cond (kind==33) (k true) (cond (kind==35) (k true) (k (kind==31)))
def M.yN kind:=M.Oo kind some
def C.yN:=fTa S.yN (λx=>M.Oo x.1.1)
def M.EO(v6:au)(v7:Int)(s:Int×Int)(kn:Int×Int->Option R)(ke:(Int)⊕(Int×Int)->Option R):Option R:=match s with
 |(open',v8)=>bif decide (v8<v7) then((idx v6 v8).bind λa=>(dG .i64 a 0).bind λb=>(cStr a 1).bind λe=>(dG .i64 a 2).bind λf=>(M.yM b).bind λc=>bif c then(bif decide (i64.wrap (open'+1)>40) then(ke (.inl v8)) else kn (i64.wrap (open'+1),i64.wrap (v8+1))) else (M.yN b).bind λd=>bif d then(bif decide ((bif decide (i64.wrap (open' - 1)<0) then 0 else i64.wrap (open' - 1))>40) then(ke (.inl v8)) else kn (bif decide (i64.wrap (open' - 1)<0) then 0 else i64.wrap (open' - 1),i64.wrap (v8+1))) else bif decide (open'>40) then(ke (.inl v8)) else kn (open',i64.wrap (v8+1))) else ke (.inr (open',v8))
def M.EP v6 v7 s:=M.EO v6 v7 s (λs=>some (Sum.inl s)) λt=>some (Sum.inr t)
def M.Oq v6 v7 s:=dU (M.EP v6 v7) s
def F.Oq:LE X0 52:=le 3 (I5 [cu 3 pI,cu 6 (pL false 3),cu 7 pI,cu 8 pI] []) (λx=>(x.1.1,x.1.va.1)) (λx s=>((s.1,x.1.2.1,x.1.2.2.1,s.2,()),())) (λx=> .sum (.leaf (Int) (λt=>(Ex.ret,⟨[(2,iK t)],[]⟩))) (.leaf (Int×Int) (λt=>(Ex.exit 0,⟨[(3,iK t.1),(6,wB 3 x.1.2.1),(7,iK x.1.2.2.1),(8,iK t.2),(9,jO false)],[]⟩)))) (λx=>M.EO x.1.2.1 x.1.2.2.1) [fe C.yM,fe C.yN] [] (by rintro _ _ ⟨_,_⟩ _ _<;>simp only[M.EO,nb]<;>rfl)
abbrev M.QW(l:au)(k:Int->Option R):=(M.Oq l ((↑l.length:Int)) (0,0)).bind λa=>kT a (λc=>k c) λb=>letE b λd=>k (-1)
def M.FY l:=M.QW l some
def C.FY:=fTa S.FY (λx=>M.QW x.1.1) [] [F.Oq]
abbrev M.Ot(l:au)(i:Int)(k:Int->Option R):=cond (decide (i<(↑l.length:Int))) ((idx l i).bind λb=>(dG .i64 b 2).bind λe=>k e) (cond ((↑l.length:Int)==0) (k 0) ((idx l (i64.wrap ((↑l.length:Int) - 1))).bind λd=>(dG .i64 d 2).bind λa=>(idx l (i64.wrap ((↑l.length:Int) - 1))).bind λf=>(cStr f 1).bind λc=>k (i64.wrap (a+(↑c.length:Int)))))
def M.xk l i:=M.Ot l i some
def C.xk:=fTa S.xk (λx=>M.Ot x.1.1 x.1.2.1)
abbrev M.Jm(l:au)(k:Int×Int->Option R):=(M.zC l).bind λc=>cond (!c) (k (2,0)) ((M.FY l).bind λa=>cond (decide (a>=0)) ((M.xk l a).bind λb=>k (4,b)) (k (0,0)))
def M.BU l:=M.Jm l some
def C.BU:=fTa S.BU (λx=>M.Jm x.1.1) [fe C.zC,fe C.FY,fe C.xk]
abbrev M.Gv(c:au)(c1:Int)(c2:Bool)(c3:au)(k:Int×au×Int×Bool×au->Option R):=cond (decide (c1>=(↑c.length:Int))) (cond (aj c3) (k (0,c,c1,c2,c3)) none) ((idx c c1).bind λa=>(dG .i64 a 0).bind λb=>cond (aj c3) (k (b,c,c1,c2,c3)) none)
def M.aG c c1 c2 c3:=M.Gv c c1 c2 c3 some
def C.aG:=fTa S.aG (λx=>zbI M.Gv x.2.1)
abbrev M.CY(kind:Int)(k:Bool->Option R):=cond (kind==3) (k true) (cond (kind==4) (k true) (cond (kind==6) (k true) (cond (kind==7) (k true) (cond (kind==8) (k true) (cond (kind==32) (k true) (cond (kind==68) (k true) (k false)))))))
def M.lQ kind:=M.CY kind some
def C.lQ:=fTa S.lQ (λx=>M.CY x.1.1)
abbrev M.Gw(c:au)(c1:Int)(c2:Bool)(c3:au)(k:Int×Int×aI×aI×Bool×au×Bool×au×Int×Bool×au->Option R):=cond (aj c3) (k (0,0,[],[],true,[],false,c,c1,true,c3)) none
def M.iQ c c1 c2 c3:=M.Gw c c1 c2 c3 some
def C.iQ:=fTa S.iQ (λx=>zbI M.Gw x.2.1)
def M.dX(v14:au)(v15:Int)(v:au)(v1:Int)(v2:Bool)(x':au)(s:Int×Int)(kn:Int×Int->Option R)(ke:(Int×Int)⊕(Unit)⊕(Int×Int)->Option R):Option R:=match s with
 |(open',v16)=>bif decide (v16<v15) then((idx v14 v16).bind λa=>(dG .i64 a 0).bind λb=>(cStr a 1).bind λe=>(dG .i64 a 2).bind λf=>(M.yM b).bind λd=>bif d then(bif decide (i64.wrap (open'+1)<=0) then(ke (.inl (i64.wrap (open'+1),v16))) else kn (i64.wrap (open'+1),i64.wrap (v16+1))) else (M.yN b).bind λc=>bif c then(bif decide (i64.wrap (open' - 1)<=0) then(ke (.inl (i64.wrap (open' - 1),v16))) else kn (i64.wrap (open' - 1),i64.wrap (v16+1))) else bif b==36 then(bif open'==1 then(ke (.inr (.inl ()))) else bif decide (open'<=0) then(ke (.inl (open',v16))) else kn (open',i64.wrap (v16+1))) else bif decide (open'<=0) then(ke (.inl (open',v16))) else kn (open',i64.wrap (v16+1))) else ke (.inr (.inr (open',v16)))
def M.bM v14 v15 v v1 v2 x' s:=M.dX v14 v15 v v1 v2 x' s (λs=>some (Sum.inl s)) λt=>some (Sum.inr t)
def M.oP v14 v15 v v1 v2 x' s:=dU (M.bM v14 v15 v v1 v2 x') s
def F.oP:LE X0 130:=le 3 (I5 [cu 3 pI,cu 14 (pL false 3),cu 15 pI,cu 16 pI] [cu 100000 (cB 52 zbG),cu 300000 zbu]) (λx=>(x.1.1,x.1.va.1)) (λx s=>((s.1,x.1.2.1,x.1.2.2.1,s.2,()),((x.2.1.1,x.2.1.2.1,x.2.1.2.2.1,(),()),x.2.2.1,()))) (λx=> .sum (.leaf (Int×Int) (λt=>(Ex.exit 0,⟨[(3,iK t.1),(14,wB 3 x.1.2.1),(15,iK x.1.2.2.1),(16,iK t.2),(41,jO true)],[(100000,zbe x.2.1 300000),(300000,Cell.arr false true 0 1 x.2.2.1)]⟩))) (.sum (.leaf (Unit) (λt=>(Ex.ret,⟨[(2,jO true)],[(100000,zbe x.2.1 300000),(300000,Cell.arr false true 0 1 x.2.2.1)]⟩))) (.leaf (Int×Int) (λt=>(Ex.exit 0,⟨[(3,iK t.1),(14,wB 3 x.1.2.1),(15,iK x.1.2.2.1),(16,iK t.2),(17,jO false)],[(100000,zbe x.2.1 300000),(300000,Cell.arr false true 0 1 x.2.2.1)]⟩))))) (λx=>M.dX x.1.2.1 x.1.2.2.1 x.2.1.1 x.2.1.2.1 x.2.1.2.2.1 x.2.2.1) [fe C.yM,fe C.yN] [] (by rintro _ _ ⟨_,_⟩ _ _<;>unfold M.dX<;>exact zbJ)
abbrev M.yh(c:au)(c1:Int)(c2:Bool)(c3:au)(k:Bool×au×Int×Bool×au->Option R):=(cut c c1 (↑c.length:Int)).bind λa=>(M.oP a ((↑a.length:Int)) c c1 c2 c3 (0,0)).bind λd=>kT d (λg=>cond (aj c3) (k (false,c,c1,c2,c3)) none) λb=>kT b (λh=>cond (aj c3) (k (true,c,c1,c2,c3)) none) λe=>letE e λf=>cond (aj c3) (k (false,c,c1,c2,c3)) none
def M.mF c c1 c2 c3:=M.yh c c1 c2 c3 some
def C.mF:=fTa S.mF (λx=>zbI M.yh x.2.1) [] [F.oP]
def M.nX(s:zaB⊕zaB)(kn:zaB⊕zaB->Option R)(ke:zaB⊕zaB->Option R):Option R:=match s with
 | .inl (v,v1,v2,v3)=>bif !v2 then(bif aj v3 then((M.aG v v1 v2 v3).bind λb=>bif b.1==1 then(kn (.inr (b.2.1,i64.wrap (b.2.2.1+1),b.2.2.2.1,b.2.2.2.2))) else bif b.1==2 then((idx b.2.1 b.2.2.1).bind λf=>(cStr f 1).bind λc=>sW b.2.2.2.2 [[D.str c]] 16 λza=>kn (.inr (b.2.1,i64.wrap (b.2.2.1+1),b.2.2.2.1,za))) else ke (.inl (b.2.1,b.2.2.1,b.2.2.2.1,b.2.2.2.2))) else none) else(ke (.inr (v,v1,v2,v3)))
 | .inr (v,v1,v2,x')=>bif !v2 then(bif aj x' then((M.aG v v1 v2 x').bind λa=>bif a.1==1 then(kn (.inr (a.2.1,i64.wrap (a.2.2.1+1),a.2.2.2.1,a.2.2.2.2))) else bif a.1==2 then((idx a.2.1 a.2.2.1).bind λe=>(cStr e 1).bind λd=>sW a.2.2.2.2 [[D.str d]] 16 λza=>kn (.inr (a.2.1,i64.wrap (a.2.2.1+1),a.2.2.2.1,za))) else ke (.inl (a.2.1,a.2.2.1,a.2.2.2.1,a.2.2.2.2))) else none) else ke (.inr (v,v1,v2,x'))
def M.kX s:=M.nX s (λs=>some (Sum.inl s)) λt=>some (Sum.inr t)
def M.kP s:=dU (M.kX) s
def F.kP:LE X0 128:=le 1 (pOr (I5 [cu 0 (pP 100000 0)] [cu 100000 (cB 52 [pL false 3,pI,pB,pO 100001039999 0]),cu 100001039999 zbu]) (I5 [cu 0 (pP 100000 0)] [cu 100000 (cB 52 zbG),cu 300000 zbu])) (σ:=zaB⊕zaB) (λx=>(match x with| .inl x=> .inl ((x.2.1.1,x.2.1.2.1,x.2.1.2.2.1,x.2.2.1))| .inr x=> .inr ((x.2.1.1,x.2.1.2.1,x.2.1.2.2.1,x.2.2.1)))) (λx s=>(match s with| .inl s=> .inl ((((),()),((s.1,s.2.1,s.2.2.1,(),()),s.va,())))| .inr s=> .inr ((((),()),((s.1,s.2.1,s.2.2.1,(),()),s.va,()))))) (λx=> .sum (.leaf zaB (λt=>(Ex.ret,⟨[(0,V.ptr 100000 0),(11,jO false)],[(100000,zbe t 300000),(300000,Cell.arr false true 0 1 t.va)]⟩))) (.leaf zaB (λt=>(Ex.exit 0,⟨[(0,V.ptr 100000 0),(6,jO false)],[(100000,zbe t 300000),(300000,Cell.arr false true 0 1 t.va)]⟩)))) (λx=>M.nX) [fe C.aG] [] (by rintro _ _ (⟨_,_,_,_⟩|⟨_,_,_,_⟩) _ _<;>unfold M.nX<;>exact zbJ) (hE:=by intro _ _ s _;rcases s with s|s<;>kernel_rfl)
abbrev M.zo(c:au)(c1:Int)(c2:Bool)(c3:au)(k:au×Int×Bool×au->Option R):=(M.kP (.inl (c,c1,c2,c3))).bind λd=>kT d (λb=>cond (aj b.2.2.2) (k (b)) none) λe=>letE e λa=>cond (aj a.2.2.2) (k (a)) none
def M.gJ c c1 c2 c3:=M.zo c c1 c2 c3 some
def C.gJ:=fTa S.gJ (λx=>zbI M.zo x.2.1) [] [F.kP]
def M.zq(bH:zaa)(x' jl:Bool)(s:au×Int×Bool×au×au)(kn:au×Int×Bool×au×au->Option R)(ke:zaD⊕zaS⊕zaD->Option R):Option R:=match s with
 |(v,v1,v2,kW,nT)=>bif !v2 then(bif aj nT then((bH x' jl v v1 v2 nT).bind λa=>sW kW [[D.int .i64 a.1,D.int .i64 a.2.1,D.str a.2.2.1,D.str a.2.2.2.1,D.sl false 5 (aF a.2.2.2.2.2.1)]] 72 λd=>bif a.2.2.2.2.2.2.2.2.2.1 then(ke (.inl (a.2.2.2.2.2.2.2.1,a.2.2.2.2.2.2.2.2.1,a.2.2.2.2.2.2.2.2.2.1,d,a.2.2.2.2.2.2.2.2.2.2))) else bif aj a.2.2.2.2.2.2.2.2.2.2 then((M.aG a.2.2.2.2.2.2.2.1 a.2.2.2.2.2.2.2.2.1 a.2.2.2.2.2.2.2.2.2.1 a.2.2.2.2.2.2.2.2.2.2).bind λb=>bif b.1 !=36 then(ke (.inl (b.2.1,b.2.2.1,b.2.2.2.1,d,b.2.2.2.2))) else bif(↑d.length:Int)==6 then(ke (.inr (.inl (b.2.1,b.2.2.1,d,b.2.2.2.2)))) else bif aj b.2.2.2.2 then((M.gJ b.2.1 (i64.wrap (b.2.2.1+1)) b.2.2.2.1 b.2.2.2.2).bind λc=>kn (c.1,c.2.1,c.2.2.1,d,c.2.2.2)) else none) else none) else none) else ke (.inr (.inr (v,v1,v2,kW,nT)))
def M.Gx bH x' jl s:=M.zq bH x' jl s (λs=>some (Sum.inl s)) λt=>some (Sum.inr t)
def M.xP bH x' jl s:=dU (M.Gx bH x' jl) s
def F.xP{bH:zaa}(qm:S.fU.ok X0 λx=>bH x.1.2.1.1 x.1.2.1.2.1 x.2.1.1 x.2.1.2.1 x.2.1.2.2.1 x.2.1.va.1):LE X0 184:=le 2 (I5 [cu 0 (pP 100000 0),cu 3 (pP 300000 0),cu 5 (pO 300001 0)] [cu 100000 (cB 52 [pL false 3,pI,pB,pO 300002 0]),cu 300000 (cB 97 [pB,pB]),cu 300001 zbB,cu 300002 zbu]) (λx=>(x.2.1.1,x.2.1.2.1,x.2.1.2.2.1,x.va.1,x.va.2.1)) (λx s=>(((),(),(),()),((s.1,s.2.1,s.2.2.1,(),()),(x.2.2.1.1,x.2.2.1.2.1,()),s.va.1,s.va.2,()))) (λx=> .sum (.leaf zaD (λt=>(Ex.exit 0,⟨[(0,V.ptr 100000 0),(3,V.ptr 300000 0),(5,V.own 300001 0),(27,jO true)],[(100000,zbe t 300002),(300000,Cell.box 97 [jO x.2.2.1.1,jO x.2.2.1.2.1]),(300001,Cell.arr false false 0 5 t.va.1),(300002,Cell.arr false true 0 1 t.va.2)]⟩))) (.sum (.leaf zaS (λt=>(Ex.exit 0,⟨[(5,V.own 300000 0)],[(100000,Cell.box 52 [wB 3 t.1,iK t.2.1,jO true,V.own 300001 0]),(300000,Cell.arr false false 0 5 t.2.2.1),(300001,Cell.arr false true 0 1 t.va)]⟩))) (.leaf zaD (λt=>(Ex.exit 0,⟨[(0,V.ptr 100000 0),(3,V.ptr 300000 0),(5,V.own 300001 0),(11,jO false)],[(100000,zbe t 300002),(300000,Cell.box 97 [jO x.2.2.1.1,jO x.2.2.1.2.1]),(300001,Cell.arr false false 0 5 t.va.1),(300002,Cell.arr false true 0 1 t.va.2)]⟩))))) (λx=>M.zq bH x.2.2.1.1 x.2.2.1.2.1) [fe qm,fe C.aG,fe C.gJ] [] (by rintro _ _ ⟨_,_,_,_,_⟩ _ _<;>unfold M.zq<;>exact zbJ)
def M.y5(bH:zaa)(r' kU:Bool)(c:au)(c1:Int)(c2:Bool)(c3:au)(k:Bool×au×au×Int×Bool×au->Option R):=(M.xP bH r' kU (c,c1,c2,[],c3)).bind λe=>kT e (λb=>cond (aj b.2.2.2.2) (k (true,b.2.2.2.1,b.1,b.2.1,b.2.2.1,b.2.2.2.2)) none) λg=>kT g (λd=>cond (aj d.2.2.2) (k (true,d.2.2.1,d.1,d.2.1,true,d.2.2.2)) none) λf=>letE f λa=>cond (aj a.2.2.2.2) (k (true,a.2.2.2.1,a.1,a.2.1,a.2.2.1,a.2.2.2.2)) none
def C.YJ{bH:zaa}(qm:S.fU.ok X0 λx=>bH x.1.2.1.1 x.1.2.1.2.1 x.2.1.1 x.2.1.2.1 x.2.1.2.2.1 x.2.1.va.1):S.NP.ok X0 λx=>M.y5 bH x.1.2.1.1 x.1.2.1.2.1 x.2.1.1 x.2.1.2.1 x.2.1.2.2.1 x.2.1.va.1 some:=fnS (λx=>zbI (M.y5 bH x.1.2.1.1 x.1.2.1.2.1) x.2.1) [] [F.xP qm] (by intros;unfold M.y5;exact zbJ)
abbrev M.Aj(kind:Int)(c:au)(c1:Int)(c2:Bool)(c3:au)(k:Bool×au×Int×Bool×au->Option R):=cond c2 (cond (aj c3) (k (false,c,c1,true,c3)) none) (cond (aj c3) ((M.aG c c1 c2 c3).bind λa=>cond (a.1 !=kind) (cond (aj a.2.2.2.2) (k (false,a.2.1,a.2.2.1,true,a.2.2.2.2)) none) (cond (aj a.2.2.2.2) (k (true,a.2.1,i64.wrap (a.2.2.1+1),a.2.2.2)) none)) none)
def M.fB kind c c1 c2 c3:=M.Aj kind c c1 c2 c3 some
def C.fB:=fTa S.fB (λx=>zbI (M.Aj x.1.2.1) x.2.1) [fe C.aG]
abbrev M.y7(aco:Int×au×Int×Bool×au)(mM:zao)(shut:Int)(k:Bool×au×au×Int×Bool×au->Option R):=cond (aj aco.2.2.2.2) ((mM false false aco.2.1 aco.2.2.1 aco.2.2.2.1 aco.2.2.2.2).bind λa=>cond (aj a.2.2.2.2.2) ((M.fB shut a.2.2.1 a.2.2.2.1 a.2.2.2.2.1 a.2.2.2.2.2).bind λb=>cond (aj b.2.2.2.2) (k (false,aF a.2.1,b.2)) none) none) none
def M.sJ(mM:zao)(shut:Int)(c:au)(c1:Int)(c2:Bool)(c3:au)(k:Bool×au×au×Int×Bool×au->Option R):=cond (aj c3) ((M.aG c c1 c2 c3).bind λa=>cond (a.1==shut) (cond (shut==33) (cond (aj a.2.2.2.2) (k (true,[],a.2.1,i64.wrap (a.2.2.1+1),a.2.2.2)) none) (M.y7 a mM shut k)) (M.y7 a mM shut k)) none
def C.Z4{mM:zao}(Z5:S.NP.ok X0 λx=>mM x.1.2.1.1 x.1.2.1.2.1 x.2.1.1 x.2.1.2.1 x.2.1.2.2.1 x.2.1.va.1):S.zK.ok X0 λx=>M.sJ mM x.1.2.1 x.2.1.1 x.2.1.2.1 x.2.1.2.2.1 x.2.1.va.1 some:=fnS (λx=>zbI (M.sJ mM x.1.2.1) x.2.1) [fe C.aG,fe Z5,fe C.fB] [] (by intros;unfold M.sJ M.y7;exact zbJ)
abbrev M.Gy(c:au)(c1:Int)(c2:Bool)(c3:au)(k:aI×au×Int×Bool×au->Option R):=(idx c c1).bind λa=>(cStr a 1).bind λb=>cond (aj c3) (k (b,c,i64.wrap (c1+1),c2,c3)) none
def M.iR c c1 c2 c3:=M.Gy c c1 c2 c3 some
def C.iR:=fTa S.iR (λx=>zbI M.Gy x.2.1)
abbrev M.og(c:au)(c1:Int)(c2:Bool)(c3:au)(k:aI×au×Int×Bool×au->Option R):=cond c2 (cond (aj c3) (k ([],c,c1,true,c3)) none) (cond (aj c3) ((M.aG c c1 c2 c3).bind λa=>cond (a.1 !=6) (cond (aj a.2.2.2.2) (k ([],a.2.1,a.2.2.1,true,a.2.2.2.2)) none) (cond (aj a.2.2.2.2) ((M.iR a.2.1 a.2.2.1 a.2.2.2.1 a.2.2.2.2).bind λb=>cond (aj b.2.2.2.2) (k (b)) none) none)) none)
def M.dN c c1 c2 c3:=M.og c c1 c2 c3 some
def C.dN:=fTa S.dN (λx=>zbI M.og x.2.1) [fe C.aG,fe C.iR]
abbrev M.La(kind:Int)(k:Bool->Option R):=cond (kind==51) (k true) (k (kind==52))
def M.mG kind:=M.La kind some
def C.mG:=fTa S.mG (λx=>M.La x.1.1)
def M.qK(aT:zag)(c:au)(c1:Int)(c2:Bool)(c3:au)(k:Int×Int×aI×aI×Bool×au×Bool×au×Int×Bool×au->Option R):=cond (aj c3) ((M.iR c c1 c2 c3).bind λb=>cond (aj b.2.2.2.2) ((M.aG b.2.1 b.2.2.1 b.2.2.2.1 b.2.2.2.2).bind λa=>cond (a.1==34) (cond (aj a.2.2.2.2) ((aT 35 a.2.1 (i64.wrap (a.2.2.1+1)) a.2.2.2.1 a.2.2.2.2).bind λd=>cond (aj d.2.2.2.2.2) (k (5,0,b.1,[],false,aF d.2.1,true,d.2.2)) none) none) (cond (aj a.2.2.2.2) (k (1,0,b.1,[],true,[],true,a.2)) none)) none) none
def C.Ws{aT:zag}(sK:S.zK.ok X0 λx=>aT x.1.2.1 x.2.1.1 x.2.1.2.1 x.2.1.2.2.1 x.2.1.va.1):S.BX.ok X0 λx=>M.qK aT x.2.1.1 x.2.1.2.1 x.2.1.2.2.1 x.2.1.va.1 some:=fnS (λx=>zbI (M.qK aT) x.2.1) [fe C.iR,fe C.aG,fe sK] [] (by intros;unfold M.qK;exact zbJ)
abbrev M.Bq(adQ:Bool×au×Int×Bool×au)(aT:zag)(k:Int×Int×aI×aI×Bool×au×Bool×au×Int×Bool×au->Option R)(Tv:aI×au×Int×Bool×au):=cond adQ.1 (cond (aj adQ.2.2.2.2) ((aT 33 adQ.2.1 adQ.2.2.1 adQ.2.2.2.1 adQ.2.2.2.2).bind λa=>cond (aj a.2.2.2.2.2) (k (8,0,Tv.1,[],false,aF a.2.1,false,a.2.2)) none) none) (cond (aj adQ.2.2.2.2) (k (8,0,Tv.1,[],true,[],false,adQ.2)) none)
abbrev M.zu(Bj:Int×au×Int×Bool×au)(k:Int×Int×aI×aI×Bool×au×Bool×au×Int×Bool×au->Option R)(aT:zag):=cond (aj Bj.2.2.2.2) ((M.iR Bj.2.1 Bj.2.2.1 Bj.2.2.2.1 Bj.2.2.2.2).bind λc=>cond (Bj.1==8) (cond (c.1==[108,101,110,103,116,104]) (cond (aj c.2.2.2.2) ((M.aG c.2.1 c.2.2.1 c.2.2.2.1 c.2.2.2.2).bind λa=>cond (a.1 !=32) (cond (aj a.2.2.2.2) (k (8,0,c.1,[],true,[],false,a.2)) none) (cond (aj a.2.2.2.2) ((M.fB 32 a.2.1 a.2.2.1 a.2.2.2.1 a.2.2.2.2).bind λe=>M.Bq e aT k c) none)) none) (cond (aj c.2.2.2.2) ((M.fB 32 c.2.1 c.2.2.1 c.2.2.2.1 c.2.2.2.2).bind λf=>M.Bq f aT k c) none)) (cond (aj c.2.2.2.2) ((M.fB 32 c.2.1 c.2.2.1 c.2.2.2.1 c.2.2.2.2).bind λb=>cond b.1 (cond (aj b.2.2.2.2) ((aT 33 b.2.1 b.2.2.1 b.2.2.2.1 b.2.2.2.2).bind λd=>cond (aj d.2.2.2.2.2) (k (7,0,c.1,[],false,aF d.2.1,false,d.2.2)) none) none) (cond (aj b.2.2.2.2) (k (7,0,c.1,[],true,[],false,b.2)) none)) none)) none
def M.rH(fQ:zad)(aT:zag)(bH:zaa)(c:au)(c1:Int)(c2:Bool)(c3:au)(k:Int×Int×aI×aI×Bool×au×Bool×au×Int×Bool×au->Option R):=cond c2 (cond (aj c3) (k (0,0,[],[],true,[],false,c,c1,c2,c3)) none) (cond (aj c3) ((M.aG c c1 c2 c3).bind λa=>cond (a.1==3) (cond (aj a.2.2.2.2) ((M.iR a.2.1 a.2.2.1 a.2.2.2.1 a.2.2.2.2).bind λh=>cond (aj h.2.2.2.2) (k (2,0,h.1,[],true,[],false,h.2)) none) none) (cond (a.1==4) (cond (aj a.2.2.2.2) ((M.iR a.2.1 a.2.2.1 a.2.2.2.1 a.2.2.2.2).bind λf=>cond (aj f.2.2.2.2) (k (3,0,f.1,[],true,[],false,f.2)) none) none) (cond (a.1==5) (cond (aj a.2.2.2.2) ((M.iR a.2.1 a.2.2.1 a.2.2.2.1 a.2.2.2.2).bind λg=>cond (aj g.2.2.2.2) (k (4,0,g.1,[],true,[],false,g.2)) none) none) (cond (a.1==6) (cond (aj a.2.2.2.2) ((fQ a.2.1 a.2.2.1 a.2.2.2.1 a.2.2.2.2).bind λd=>cond (aj d.2.2.2.2.2.2.2.2.2.2) (k (d.1,d.2.1,d.2.2.1,d.2.2.2.1,false,aF d.2.2.2.2.2.1,d.2.2.2.2.2.2)) none) none) (cond (a.1==7) (M.zu a k aT) (cond (a.1==8) (M.zu a k aT) (cond (a.1==32) (cond (aj a.2.2.2.2) ((bH false false a.2.1 (i64.wrap (a.2.2.1+1)) a.2.2.2.1 a.2.2.2.2).bind λe=>cond (aj e.2.2.2.2.2.2.2.2.2.2) ((M.fB 33 e.2.2.2.2.2.2.2.1 e.2.2.2.2.2.2.2.2.1 e.2.2.2.2.2.2.2.2.2.1 e.2.2.2.2.2.2.2.2.2.2).bind λi=>cond (aj i.2.2.2.2) (k (e.1,e.2.1,e.2.2.1,e.2.2.2.1,false,aF e.2.2.2.2.2.1,false,i.2)) none) none) none) (cond (aj a.2.2.2.2) ((M.iQ a.2.1 a.2.2.1 a.2.2.2.1 a.2.2.2.2).bind λb=>cond (aj b.2.2.2.2.2.2.2.2.2.2) (k (b.1,b.2.1,b.2.2.1,b.2.2.2.1,false,aF b.2.2.2.2.2.1,b.2.2.2.2.2.2)) none) none)))))))) none)
def C.Xq{fQ:zad}{aT:zag}{bH:zaa}(Gz:S.BX.ok X0 λx=>fQ x.2.1.1 x.2.1.2.1 x.2.1.2.2.1 x.2.1.va.1)(sK:S.zK.ok X0 λx=>aT x.1.2.1 x.2.1.1 x.2.1.2.1 x.2.1.2.2.1 x.2.1.va.1)(qm:S.fU.ok X0 λx=>bH x.1.2.1.1 x.1.2.1.2.1 x.2.1.1 x.2.1.2.1 x.2.1.2.2.1 x.2.1.va.1):S.iW.ok X0 λx=>M.rH fQ aT bH x.2.1.1 x.2.1.2.1 x.2.1.2.2.1 x.2.1.va.1 some:=fnS (λx=>zbI (M.rH fQ aT bH) x.2.1) [fe C.aG,fe C.iR,fe Gz,fe C.fB,fe sK,fe qm,fe C.iQ] [] (by intros;unfold M.rH M.zu;exact zbJ)
abbrev M.CZ(afv:Int×Int×aI×aI×Bool×au×Bool×au×Int×Bool×au)(k:Int×Int×aI×aI×Bool×au×Bool×au×Int×Bool×au->Option R):=cond (aj afv.2.2.2.2.2.2.2.2.2.2) (k (6,0,[],[],true,[[D.int .i64 afv.1,D.int .i64 afv.2.1,D.str afv.2.2.1,D.str afv.2.2.2.1,D.sl false 5 (aF afv.2.2.2.2.2.1)]],true,afv.2.2.2.2.2.2.2)) none
def M.vk(pY:zad)(iC:zad)(dH:zad)(c:au)(c1:Int)(c2:Bool)(c3:au)(k:Int×Int×aI×aI×Bool×au×Bool×au×Int×Bool×au->Option R):=cond c2 (cond (aj c3) ((pY c c1 c2 c3).bind λd=>cond (aj d.2.2.2.2.2.2.2.2.2.2) (k (d.1,d.2.1,d.2.2.1,d.2.2.2.1,false,aF d.2.2.2.2.2.1,d.2.2.2.2.2.2)) none) none) (cond (aj c3) ((M.aG c c1 c2 c3).bind λe=>cond (e.1 !=68) (cond (aj e.2.2.2.2) ((pY e.2.1 e.2.2.1 e.2.2.2.1 e.2.2.2.2).bind λa=>cond (aj a.2.2.2.2.2.2.2.2.2.2) (k (a.1,a.2.1,a.2.2.1,a.2.2.2.1,false,aF a.2.2.2.2.2.1,a.2.2.2.2.2.2)) none) none) (cond (aj e.2.2.2.2) ((M.aG e.2.1 (i64.wrap (e.2.2.1+1)) e.2.2.2.1 e.2.2.2.2).bind λb=>(M.mG b.1).bind λf=>cond f (cond (aj b.2.2.2.2) ((iC b.2.1 b.2.2.1 b.2.2.2.1 b.2.2.2.2).bind λg=>M.CZ g k) none) (cond (aj b.2.2.2.2) ((dH b.2.1 b.2.2.1 b.2.2.2.1 b.2.2.2.2).bind λh=>M.CZ h k) none)) none)) none)
def C.YK{pY:zad}{iC:zad}{dH:zad}(X5:S.iW.ok X0 λx=>pY x.2.1.1 x.2.1.2.1 x.2.1.2.2.1 x.2.1.va.1)(Jo:S.iT.ok X0 λx=>iC x.2.1.1 x.2.1.2.1 x.2.1.2.2.1 x.2.1.va.1)(y8:S.fZ.ok X0 λx=>dH x.2.1.1 x.2.1.2.1 x.2.1.2.2.1 x.2.1.va.1):S.fZ.ok X0 λx=>M.vk pY iC dH x.2.1.1 x.2.1.2.1 x.2.1.2.2.1 x.2.1.va.1 some:=fnS (λx=>zbI (M.vk pY iC dH) x.2.1) [fe X5,fe C.aG,fe C.mG,fe Jo,fe y8] [] (by intros;unfold M.vk M.CZ;exact zbJ)
abbrev M.rJ(adR:Int×Int×aI×aI×Bool×au×Bool×au×Int×Bool×au)(k:Int×Int×aI×aI×Bool×au×Bool×au×Int×Bool×au->Option R):=cond (aj adR.2.2.2.2.2.2.2.2.2.2) (k (adR.1,adR.2.1,adR.2.2.1,adR.2.2.2.1,false,aF adR.2.2.2.2.2.1,adR.2.2.2.2.2.2)) none
def M.tu(dH:zad)(fQ:zad)(c:au)(c1:Int)(c2:Bool)(c3:au)(k:Int×Int×aI×aI×Bool×au×Bool×au×Int×Bool×au->Option R):=cond c2 (cond (aj c3) ((M.iQ c c1 c2 c3).bind λe=>M.rJ e k) none) (cond (aj c3) ((M.aG c c1 c2 c3).bind λb=>cond (b.1==68) (cond (aj b.2.2.2.2) ((dH b.2.1 b.2.2.1 b.2.2.2.1 b.2.2.2.2).bind λg=>M.rJ g k) none) (cond (aj b.2.2.2.2) ((M.aG b.2.1 b.2.2.1 b.2.2.2.1 b.2.2.2.2).bind λa=>cond (a.1==6) (cond (aj a.2.2.2.2) ((fQ a.2.1 a.2.2.1 a.2.2.2.1 a.2.2.2.2).bind λd=>M.rJ d k) none) (cond (aj a.2.2.2.2) ((M.iQ a.2.1 a.2.2.1 a.2.2.2.1 a.2.2.2.2).bind λf=>M.rJ f k) none)) none)) none)
def C.X6{dH:zad}{fQ:zad}(y8:S.fZ.ok X0 λx=>dH x.2.1.1 x.2.1.2.1 x.2.1.2.2.1 x.2.1.va.1)(Gz:S.BX.ok X0 λx=>fQ x.2.1.1 x.2.1.2.1 x.2.1.2.2.1 x.2.1.va.1):S.MV.ok X0 λx=>M.tu dH fQ x.2.1.1 x.2.1.2.1 x.2.1.2.2.1 x.2.1.va.1 some:=fnS (λx=>zbI (M.tu dH fQ) x.2.1) [fe C.iQ,fe C.aG,fe y8,fe Gz] [] (by intros;unfold M.tu M.rJ;exact zbJ)
def M.tC(uS:zad)(c:au)(c1:Int)(c2:Bool)(c3:au)(k:Int×Int×aI×aI×Bool×au×Bool×au×Int×Bool×au->Option R):=cond (aj c3) ((M.aG c c1 c2 c3).bind λb=>cond (aj b.2.2.2.2) ((uS b.2.1 (i64.wrap (b.2.2.1+1)) b.2.2.2.1 b.2.2.2.2).bind λa=>cond (aj a.2.2.2.2.2.2.2.2.2.2) (k (9,b.1,[],[],true,[[D.int .i64 a.1,D.int .i64 a.2.1,D.str a.2.2.1,D.str a.2.2.2.1,D.sl false 5 (aF a.2.2.2.2.2.1)]],false,a.2.2.2.2.2.2.2)) none) none) none
def C.X7{uS:zad}(YL:S.MV.ok X0 λx=>uS x.2.1.1 x.2.1.2.1 x.2.1.2.2.1 x.2.1.va.1):S.iT.ok X0 λx=>M.tC uS x.2.1.1 x.2.1.2.1 x.2.1.2.2.1 x.2.1.va.1 some:=fnS (λx=>zbI (M.tC uS) x.2.1) [fe C.aG,fe YL] [] (by intros;unfold M.tC;exact zbJ)
abbrev M.Ej(Ed:Int×Int×aI×aI×Bool×au×Bool×au×Int×Bool×au)(k:Int×Int×aI×aI×Bool×au×Bool×au×Int×Bool×au->Option R):=cond Ed.2.2.2.2.2.2.2.2.2.1 (cond (aj Ed.2.2.2.2.2.2.2.2.2.2) (k (Ed.1,Ed.2.1,Ed.2.2.1,Ed.2.2.2.1,false,aF Ed.2.2.2.2.2.1,Ed.2.2.2.2.2.2)) none) (cond (!Ed.2.2.2.2.2.2.1) (cond (aj Ed.2.2.2.2.2.2.2.2.2.2) (k (Ed.1,Ed.2.1,Ed.2.2.1,Ed.2.2.2.1,false,aF Ed.2.2.2.2.2.1,Ed.2.2.2.2.2.2)) none) (cond (aj Ed.2.2.2.2.2.2.2.2.2.2) ((M.aG Ed.2.2.2.2.2.2.2.1 Ed.2.2.2.2.2.2.2.2.1 Ed.2.2.2.2.2.2.2.2.2.1 Ed.2.2.2.2.2.2.2.2.2.2).bind λa=>(M.mG a.1).bind λc=>cond (!c) (cond (aj a.2.2.2.2) (k (Ed.1,Ed.2.1,Ed.2.2.1,Ed.2.2.2.1,false,aF Ed.2.2.2.2.2.1,Ed.2.2.2.2.2.2.1,a.2)) none) (cond (aj a.2.2.2.2) ((M.aG a.2.1 a.2.2.1 a.2.2.2.1 a.2.2.2.2).bind λb=>cond (aj b.2.2.2.2) (k (10,b.1,[],[],true,[[D.int .i64 Ed.1,D.int .i64 Ed.2.1,D.str Ed.2.2.1,D.str Ed.2.2.2.1,D.sl false 5 (aF Ed.2.2.2.2.2.1)]],false,b.2.1,i64.wrap (b.2.2.1+1),b.2.2.2)) none) none)) none))
def M.wO(iC:zad)(dH:zad)(c:au)(c1:Int)(c2:Bool)(c3:au)(k:Int×Int×aI×aI×Bool×au×Bool×au×Int×Bool×au->Option R):=cond (!c2) (cond (aj c3) ((M.aG c c1 c2 c3).bind λa=>(M.mG a.1).bind λd=>cond d (cond (aj a.2.2.2.2) ((iC a.2.1 a.2.2.1 a.2.2.2.1 a.2.2.2.2).bind λb=>cond (aj b.2.2.2.2.2.2.2.2.2.2) (k (b.1,b.2.1,b.2.2.1,b.2.2.2.1,false,aF b.2.2.2.2.2.1,b.2.2.2.2.2.2)) none) none) (cond (aj a.2.2.2.2) ((dH a.2.1 a.2.2.1 a.2.2.2.1 a.2.2.2.2).bind λf=>M.Ej f k) none)) none) (cond (aj c3) ((dH c c1 c2 c3).bind λe=>M.Ej e k) none)
def C.Z7{iC:zad}{dH:zad}(Jo:S.iT.ok X0 λx=>iC x.2.1.1 x.2.1.2.1 x.2.1.2.2.1 x.2.1.va.1)(y8:S.fZ.ok X0 λx=>dH x.2.1.1 x.2.1.2.1 x.2.1.2.2.1 x.2.1.va.1):S.lq.ok X0 λx=>M.wO iC dH x.2.1.1 x.2.1.2.1 x.2.1.2.2.1 x.2.1.va.1 some:=fnS (λx=>zbI (M.wO iC dH) x.2.1) [fe C.aG,fe C.mG,fe Jo,fe y8] [] (by intros;unfold M.wO M.Ej;exact zbJ)
abbrev M.Ak(op' a a1:Int)(a2 a3:aI)(a4:au)(a5:Bool)(b b1:Int)(b2 b3:aI)(b4:au)(b5:Bool)(k:Int×Int×aI×aI×Bool×au×Bool->Option R):=k (12,op',[],[],true,[[D.int .i64 a,D.int .i64 a1,D.str a2,D.str a3,D.sl false 5 a4],[D.int .i64 b,D.int .i64 b1,D.str b2,D.str b3,D.sl false 5 b4]],false)
def M.lY op' a a1 a2 a3 a4 a5 b b1 b2 b3 b4 b5:=M.Ak op' a a1 a2 a3 a4 a5 b b1 b2 b3 b4 b5 some
def C.lY:=fTa S.lY (λx=>M.Ak x.1.1 x.1.2.1.1 x.1.2.1.2.1 x.1.2.1.2.2.1 x.1.2.1.va.1 x.1.2.1.va.2.1 x.1.2.1.va.2.2.1 x.1.2.2.1.1 x.1.2.2.1.2.1 x.1.2.2.1.2.2.1 x.1.2.2.1.va.1 x.1.2.2.1.va.2.1 x.1.2.2.1.va.2.2.1)
def M.yj(xQ:zad)(aZ:zaa)(r' kU:Bool)(c:au)(c1:Int)(c2:Bool)(c3:au)(k:Int×Int×aI×aI×Bool×au×Bool×au×Int×Bool×au->Option R):=cond (aj c3) ((xQ c c1 c2 c3).bind λa=>cond a.2.2.2.2.2.2.2.2.2.1 (cond (aj a.2.2.2.2.2.2.2.2.2.2) (k (a.1,a.2.1,a.2.2.1,a.2.2.2.1,false,aF a.2.2.2.2.2.1,a.2.2.2.2.2.2)) none) (cond (aj a.2.2.2.2.2.2.2.2.2.2) ((M.aG a.2.2.2.2.2.2.2.1 a.2.2.2.2.2.2.2.2.1 a.2.2.2.2.2.2.2.2.2.1 a.2.2.2.2.2.2.2.2.2.2).bind λb=>cond (b.1 !=60) (cond (aj b.2.2.2.2) (k (a.1,a.2.1,a.2.2.1,a.2.2.2.1,false,aF a.2.2.2.2.2.1,a.2.2.2.2.2.2.1,b.2)) none) (cond (aj b.2.2.2.2) ((aZ r' kU b.2.1 (i64.wrap (b.2.2.1+1)) b.2.2.2.1 b.2.2.2.2).bind λd=>(M.lY 60 a.1 a.2.1 a.2.2.1 a.2.2.2.1 (aF a.2.2.2.2.2.1) a.2.2.2.2.2.2.1 d.1 d.2.1 d.2.2.1 d.2.2.2.1 (aF d.2.2.2.2.2.1) d.2.2.2.2.2.2.1).bind λe=>cond (aj d.2.2.2.2.2.2.2.2.2.2) (k (e.1,e.2.1,e.2.2.1,e.2.2.2.1,false,aF e.2.2.2.2.2.1,e.2.2.2.2.2.2,d.2.2.2.2.2.2.2)) none) none)) none)) none
def C.abq{xQ:zad}{aZ:zaa}(abr:S.lq.ok X0 λx=>xQ x.2.1.1 x.2.1.2.1 x.2.1.2.2.1 x.2.1.va.1)(oZ:S.iq.ok X0 λx=>aZ x.1.2.1.1 x.1.2.1.2.1 x.2.1.1 x.2.1.2.1 x.2.1.2.2.1 x.2.1.va.1):S.mZ.ok X0 λx=>M.yj xQ aZ x.1.2.1.1 x.1.2.1.2.1 x.2.1.1 x.2.1.2.1 x.2.1.2.2.1 x.2.1.va.1 some:=fnS (λx=>zbI (M.yj xQ aZ x.1.2.1.1 x.1.2.1.2.1) x.2.1) [fe abr,fe C.aG,fe oZ,fe C.lY] [] (by intros;unfold M.yj;exact zbJ)
abbrev M.C9(UJ:Int×au×Int×Bool×au)(o7:zaa)(r' kU:Bool)(k:Int×Int×aI×aI×Bool×au×Bool×au×Int×Bool×au->Option R):=cond (aj UJ.2.2.2.2) ((o7 r' kU UJ.2.1 UJ.2.2.1 UJ.2.2.2.1 UJ.2.2.2.2).bind λa=>cond (aj a.2.2.2.2.2.2.2.2.2.2) (k (a.1,a.2.1,a.2.2.1,a.2.2.2.1,false,aF a.2.2.2.2.2.1,a.2.2.2.2.2.2)) none) none
abbrev M.xR(UJ:Int×au×Int×Bool×au)(aZ:zaa)(r' kU:Bool)(k:Int×Int×aI×aI×Bool×au×Bool×au×Int×Bool×au->Option R):=cond (aj UJ.2.2.2.2) ((aZ r' kU UJ.2.1 (i64.wrap (UJ.2.2.1+1)) UJ.2.2.2.1 UJ.2.2.2.2).bind λa=>cond (aj a.2.2.2.2.2.2.2.2.2.2) (k (11,UJ.1,[],[],true,[[D.int .i64 a.1,D.int .i64 a.2.1,D.str a.2.2.1,D.str a.2.2.2.1,D.sl false 5 (aF a.2.2.2.2.2.1)]],false,a.2.2.2.2.2.2.2)) none) none
def M.vC(o7:zaa)(aZ:zaa)(r' kU:Bool)(c:au)(c1:Int)(c2:Bool)(c3:au)(k:Int×Int×aI×aI×Bool×au×Bool×au×Int×Bool×au->Option R):=cond (aj c3) ((M.aG c c1 c2 c3).bind λa=>cond a.2.2.2.1 (M.C9 a o7 r' kU k) (cond (a.1 !=55) (cond (a.1 !=56) (cond (a.1 !=61) (M.C9 a o7 r' kU k) (M.xR a aZ r' kU k)) (M.xR a aZ r' kU k)) (M.xR a aZ r' kU k))) none
def C.YM{o7:zaa}{aZ:zaa}(acp:S.mZ.ok X0 λx=>o7 x.1.2.1.1 x.1.2.1.2.1 x.2.1.1 x.2.1.2.1 x.2.1.2.2.1 x.2.1.va.1)(oZ:S.iq.ok X0 λx=>aZ x.1.2.1.1 x.1.2.1.2.1 x.2.1.1 x.2.1.2.1 x.2.1.2.2.1 x.2.1.va.1):S.iq.ok X0 λx=>M.vC o7 aZ x.1.2.1.1 x.1.2.1.2.1 x.2.1.1 x.2.1.2.1 x.2.1.2.2.1 x.2.1.va.1 some:=fnS (λx=>zbI (M.vC o7 aZ x.1.2.1.1 x.1.2.1.2.1) x.2.1) [fe C.aG,fe acp,fe oZ] [] (by intros;unfold M.vC M.xR M.C9;exact zbJ)
abbrev M.Jp(op':Int)(k:Int->Option R):=cond (op'==44) (k 3) (cond (op'==45) (k 4) (cond (op'==67) (k 6) (cond (op'==46) (k 6) (cond (op'==63) (k 7) (cond (op'==48) (k 7) (cond (op'==47) (k 7) (cond (op'==50) (k 7) (cond (op'==62) (k 7) (cond (op'==49) (k 7) (cond (op'==99) (k 8) (cond (op'==55) (k 9) (cond (op'==56) (k 9) (cond (op'==57) (k 10) (cond (op'==58) (k 10) (cond (op'==59) (k 10) (cond (op'==60) (k 12) (k 0)))))))))))))))))
def M.mV op':=M.Jp op' some
def C.mV:=fTa S.mV (λx=>M.Jp x.1.1)
def M.xU(aZ:zaa)(x' jl:Bool)(kW nT:Int)(oO rY:aI)(sV:Bool)(s:au×Int×Bool×Int×Int×aI×aI×au×Bool×au)(kn:au×Int×Bool×Int×Int×aI×aI×au×Bool×au->Option R)(ke:au×Int×Bool×Int×Int×aI×aI×au×Bool×au->Option R):Option R:=match s with
 |(v,v1,v2,xO,xw,FD,pF,pU,lT,Pn)=>bif !v2 then(bif aj Pn then((M.aG v v1 v2 Pn).bind λb=>(M.mV b.1).bind λe=>bif e==10 then(bif aj b.2.2.2.2 then((M.aG b.2.1 b.2.2.1 b.2.2.2.1 b.2.2.2.2).bind λc=>bif aj c.2.2.2.2 then((aZ x' jl c.2.1 (i64.wrap (c.2.2.1+1)) c.2.2.2.1 c.2.2.2.2).bind λa=>(M.lY c.1 xO xw FD pF pU lT a.1 a.2.1 a.2.2.1 a.2.2.2.1 (aF a.2.2.2.2.2.1) a.2.2.2.2.2.2.1).bind λd=>kn (a.2.2.2.2.2.2.2.1,a.2.2.2.2.2.2.2.2.1,a.2.2.2.2.2.2.2.2.2.1,d.1,d.2.1,d.2.2.1,d.2.2.2.1,aF d.2.2.2.2.2.1,d.2.2.2.2.2.2,a.2.2.2.2.2.2.2.2.2.2)) else none) else none) else ke (b.2.1,b.2.2.1,b.2.2.2.1,xO,xw,FD,pF,pU,lT,b.2.2.2.2)) else none) else ke (v,v1,v2,xO,xw,FD,pF,pU,lT,Pn)
def M.Jq aZ x' jl kW nT oO rY sV s:=M.xU aZ x' jl kW nT oO rY sV s (λs=>some (Sum.inl s)) λt=>some (Sum.inr t)
def M.Am aZ x' jl kW nT oO rY sV s:=dU (M.Jq aZ x' jl kW nT oO rY sV) s
def F.Am{aZ:zaa}(oZ:S.iq.ok X0 λx=>aZ x.1.2.1.1 x.1.2.1.2.1 x.2.1.1 x.2.1.2.1 x.2.1.2.2.1 x.2.1.va.1):LE X0 65:=le 2 (I5 [cu 0 (pP 100000 0),cu 3 (pP 300000 0),cu 4 (pP 300001 0),cu 5 (pP 300002 0)] [cu 100000 zbw,cu 300000 (cB 97 [pB,pB]),cu 300001 zbx,cu 300002 (cB 57 zbz),cu 300003 zbu]) (λx=>(x.2.1.1,x.2.1.2.1,x.2.1.2.2.1,x.va.2.1.1,x.va.2.1.2.1,x.va.2.1.2.2.1,x.va.2.1.va.1,x.va.2.1.va.2.1,x.va.2.1.va.2.2.1,x.va.2.2.1)) (λx s=>(((),(),(),(),()),((s.1,s.2.1,s.2.2.1,(),()),(x.2.2.1.1,x.2.2.1.2.1,()),(x.va.1.1,x.va.1.2.1,x.va.1.2.2.1,x.va.1.va.1,(),x.va.1.va.2.2.1,()),(s.va.1,s.va.2.1,s.va.2.2.1,s.va.va.1,s.va.va.2.1,s.wd.1,()),s.wd.2,()))) (λx=> .leaf zaK (λt=>(Ex.exit 0,⟨[(0,V.ptr 100000 0),(3,V.ptr 300000 0),(4,V.ptr 300001 0),(5,V.ptr 300002 0),(20,jO false)],[(100000,zbe t 300003),(300000,Cell.box 97 [jO x.2.2.1.1,jO x.2.2.1.2.1]),(300001,Cell.box 57 [iK x.va.1.1,iK x.va.1.2.1,KI x.va.1.2.2.1,KI x.va.1.va.1,V.nil 5,jO x.va.1.va.2.2.1]),(300002,Cell.box 57 [iK t.va.1,iK t.va.2.1,KI t.va.2.2.1,KI t.va.va.1,wB 5 t.va.va.2.1,jO t.wd.1]),(300003,Cell.arr false true 0 1 t.wd.2)]⟩))) (λx=>M.xU aZ x.2.2.1.1 x.2.2.1.2.1 x.va.1.1 x.va.1.2.1 x.va.1.2.2.1 x.va.1.va.1 x.va.1.va.2.2.1) [fe C.aG,fe C.mV,fe oZ,fe C.lY] [] (by rintro _ _ ⟨_,_,_,_,_,_,_,_,_,_⟩ _ _<;>unfold M.xU<;>exact zbJ)
def M.yt(aZ:zaa)(r' kU:Bool)(c:au)(c1:Int)(c2:Bool)(c3:au)(k:Int×Int×aI×aI×Bool×au×Bool×au×Int×Bool×au->Option R):=cond (aj c3) ((aZ r' kU c c1 c2 c3).bind λb=>(M.Am aZ r' kU 0 0 [] [] false (b.2.2.2.2.2.2.2.1,b.2.2.2.2.2.2.2.2.1,b.2.2.2.2.2.2.2.2.2.1,b.1,b.2.1,b.2.2.1,b.2.2.2.1,aF b.2.2.2.2.2.1,b.2.2.2.2.2.2.1,b.2.2.2.2.2.2.2.2.2.2)).bind λa=>cond (aj a.2.2.2.2.2.2.2.2.2) (k (a.2.2.2.1,a.2.2.2.2.1,a.2.2.2.2.2.1,a.2.2.2.2.2.2.1,false,a.2.2.2.2.2.2.2.1,a.2.2.2.2.2.2.2.2.1,a.1,a.2.1,a.2.2.1,a.2.2.2.2.2.2.2.2.2)) none) none
def C.abt{aZ:zaa}(oZ:S.iq.ok X0 λx=>aZ x.1.2.1.1 x.1.2.1.2.1 x.2.1.1 x.2.1.2.1 x.2.1.2.2.1 x.2.1.va.1):S.lu.ok X0 λx=>M.yt aZ x.1.2.1.1 x.1.2.1.2.1 x.2.1.1 x.2.1.2.1 x.2.1.2.2.1 x.2.1.va.1 some:=fnS (λx=>zbI (M.yt aZ x.1.2.1.1 x.1.2.1.2.1) x.2.1) [fe oZ] [F.Am oZ] (by intros;unfold M.yt;exact zbJ)
def M.xW(fG:zaa)(x' jl:Bool)(kW nT:Int)(oO rY:aI)(sV:Bool)(s:au×Int×Bool×Int×Int×aI×aI×au×Bool×au)(kn:au×Int×Bool×Int×Int×aI×aI×au×Bool×au->Option R)(ke:au×Int×Bool×Int×Int×aI×aI×au×Bool×au->Option R):Option R:=match s with
 |(v,v1,v2,xO,xw,FD,pF,pU,lT,Pn)=>bif !v2 then(bif aj Pn then((M.aG v v1 v2 Pn).bind λa=>(M.mV a.1).bind λe=>bif e==9 then(bif aj a.2.2.2.2 then((M.aG a.2.1 a.2.2.1 a.2.2.2.1 a.2.2.2.2).bind λd=>bif aj d.2.2.2.2 then((fG x' jl d.2.1 (i64.wrap (d.2.2.1+1)) d.2.2.2.1 d.2.2.2.2).bind λb=>(M.lY d.1 xO xw FD pF pU lT b.1 b.2.1 b.2.2.1 b.2.2.2.1 (aF b.2.2.2.2.2.1) b.2.2.2.2.2.2.1).bind λc=>kn (b.2.2.2.2.2.2.2.1,b.2.2.2.2.2.2.2.2.1,b.2.2.2.2.2.2.2.2.2.1,c.1,c.2.1,c.2.2.1,c.2.2.2.1,aF c.2.2.2.2.2.1,c.2.2.2.2.2.2,b.2.2.2.2.2.2.2.2.2.2)) else none) else none) else ke (a.2.1,a.2.2.1,a.2.2.2.1,xO,xw,FD,pF,pU,lT,a.2.2.2.2)) else none) else ke (v,v1,v2,xO,xw,FD,pF,pU,lT,Pn)
def M.Jr fG x' jl kW nT oO rY sV s:=M.xW fG x' jl kW nT oO rY sV s (λs=>some (Sum.inl s)) λt=>some (Sum.inr t)
def M.Ap fG x' jl kW nT oO rY sV s:=dU (M.Jr fG x' jl kW nT oO rY sV) s
def F.Ap{fG:zaa}(Iy:S.lu.ok X0 λx=>fG x.1.2.1.1 x.1.2.1.2.1 x.2.1.1 x.2.1.2.1 x.2.1.2.2.1 x.2.1.va.1):LE X0 64:=le 2 (I5 [cu 0 (pP 100000 0),cu 3 (pP 300000 0),cu 4 (pP 300001 0),cu 5 (pP 300002 0)] [cu 100000 zbw,cu 300000 (cB 97 [pB,pB]),cu 300001 zbx,cu 300002 (cB 57 zbz),cu 300003 zbu]) (λx=>(x.2.1.1,x.2.1.2.1,x.2.1.2.2.1,x.va.2.1.1,x.va.2.1.2.1,x.va.2.1.2.2.1,x.va.2.1.va.1,x.va.2.1.va.2.1,x.va.2.1.va.2.2.1,x.va.2.2.1)) (λx s=>(((),(),(),(),()),((s.1,s.2.1,s.2.2.1,(),()),(x.2.2.1.1,x.2.2.1.2.1,()),(x.va.1.1,x.va.1.2.1,x.va.1.2.2.1,x.va.1.va.1,(),x.va.1.va.2.2.1,()),(s.va.1,s.va.2.1,s.va.2.2.1,s.va.va.1,s.va.va.2.1,s.wd.1,()),s.wd.2,()))) (λx=> .leaf zaK (λt=>(Ex.exit 0,⟨[(0,V.ptr 100000 0),(3,V.ptr 300000 0),(4,V.ptr 300001 0),(5,V.ptr 300002 0),(20,jO false)],[(100000,zbe t 300003),(300000,Cell.box 97 [jO x.2.2.1.1,jO x.2.2.1.2.1]),(300001,Cell.box 57 [iK x.va.1.1,iK x.va.1.2.1,KI x.va.1.2.2.1,KI x.va.1.va.1,V.nil 5,jO x.va.1.va.2.2.1]),(300002,Cell.box 57 [iK t.va.1,iK t.va.2.1,KI t.va.2.2.1,KI t.va.va.1,wB 5 t.va.va.2.1,jO t.wd.1]),(300003,Cell.arr false true 0 1 t.wd.2)]⟩))) (λx=>M.xW fG x.2.2.1.1 x.2.2.1.2.1 x.va.1.1 x.va.1.2.1 x.va.1.2.2.1 x.va.1.va.1 x.va.1.va.2.2.1) [fe C.aG,fe C.mV,fe Iy,fe C.lY] [] (by rintro _ _ ⟨_,_,_,_,_,_,_,_,_,_⟩ _ _<;>unfold M.xW<;>exact zbJ)
def M.yu(fG:zaa)(r' kU:Bool)(c:au)(c1:Int)(c2:Bool)(c3:au)(k:Int×Int×aI×aI×Bool×au×Bool×au×Int×Bool×au->Option R):=cond (aj c3) ((fG r' kU c c1 c2 c3).bind λb=>(M.Ap fG r' kU 0 0 [] [] false (b.2.2.2.2.2.2.2.1,b.2.2.2.2.2.2.2.2.1,b.2.2.2.2.2.2.2.2.2.1,b.1,b.2.1,b.2.2.1,b.2.2.2.1,aF b.2.2.2.2.2.1,b.2.2.2.2.2.2.1,b.2.2.2.2.2.2.2.2.2.2)).bind λa=>cond (aj a.2.2.2.2.2.2.2.2.2) (k (a.2.2.2.1,a.2.2.2.2.1,a.2.2.2.2.2.1,a.2.2.2.2.2.2.1,false,a.2.2.2.2.2.2.2.1,a.2.2.2.2.2.2.2.2.1,a.1,a.2.1,a.2.2.1,a.2.2.2.2.2.2.2.2.2)) none) none
def C.abu{fG:zaa}(Iy:S.lu.ok X0 λx=>fG x.1.2.1.1 x.1.2.1.2.1 x.2.1.1 x.2.1.2.1 x.2.1.2.2.1 x.2.1.va.1):S.lC.ok X0 λx=>M.yu fG x.1.2.1.1 x.1.2.1.2.1 x.2.1.1 x.2.1.2.1 x.2.1.2.2.1 x.2.1.va.1 some:=fnS (λx=>zbI (M.yu fG x.1.2.1.1 x.1.2.1.2.1) x.2.1) [fe Iy] [F.Ap Iy] (by intros;unfold M.yu;exact zbJ)
def M.xX(fH:zaa)(x' jl:Bool)(kW nT:Int)(oO rY:aI)(sV:Bool)(s:au×Int×Bool×Int×Int×aI×aI×au×Bool×au)(kn:au×Int×Bool×Int×Int×aI×aI×au×Bool×au->Option R)(ke:au×Int×Bool×Int×Int×aI×aI×au×Bool×au->Option R):Option R:=match s with
 |(v,v1,v2,xO,xw,FD,pF,pU,lT,Pn)=>bif !v2 then(bif aj Pn then((M.aG v v1 v2 Pn).bind λa=>(M.lQ a.1).bind λd=>bif d then(bif aj a.2.2.2.2 then((fH x' jl a.2.1 a.2.2.1 a.2.2.2.1 a.2.2.2.2).bind λb=>(M.lY 99 xO xw FD pF pU lT b.1 b.2.1 b.2.2.1 b.2.2.2.1 (aF b.2.2.2.2.2.1) b.2.2.2.2.2.2.1).bind λc=>kn (b.2.2.2.2.2.2.2.1,b.2.2.2.2.2.2.2.2.1,b.2.2.2.2.2.2.2.2.2.1,c.1,c.2.1,c.2.2.1,c.2.2.2.1,aF c.2.2.2.2.2.1,c.2.2.2.2.2.2,b.2.2.2.2.2.2.2.2.2.2)) else none) else ke (a.2.1,a.2.2.1,a.2.2.2.1,xO,xw,FD,pF,pU,lT,a.2.2.2.2)) else none) else ke (v,v1,v2,xO,xw,FD,pF,pU,lT,Pn)
def M.Js fH x' jl kW nT oO rY sV s:=M.xX fH x' jl kW nT oO rY sV s (λs=>some (Sum.inl s)) λt=>some (Sum.inr t)
def M.Aq fH x' jl kW nT oO rY sV s:=dU (M.Js fH x' jl kW nT oO rY sV) s
def F.Aq{fH:zaa}(Iz:S.lC.ok X0 λx=>fH x.1.2.1.1 x.1.2.1.2.1 x.2.1.1 x.2.1.2.1 x.2.1.2.2.1 x.2.1.va.1):LE X0 63:=le 2 (I5 [cu 0 (pP 100000 0),cu 3 (pP 300000 0),cu 4 (pP 300001 0),cu 5 (pP 300002 0)] [cu 100000 zbw,cu 300000 (cB 97 [pB,pB]),cu 300001 zbx,cu 300002 (cB 57 zbz),cu 300003 zbu]) (λx=>(x.2.1.1,x.2.1.2.1,x.2.1.2.2.1,x.va.2.1.1,x.va.2.1.2.1,x.va.2.1.2.2.1,x.va.2.1.va.1,x.va.2.1.va.2.1,x.va.2.1.va.2.2.1,x.va.2.2.1)) (λx s=>(((),(),(),(),()),((s.1,s.2.1,s.2.2.1,(),()),(x.2.2.1.1,x.2.2.1.2.1,()),(x.va.1.1,x.va.1.2.1,x.va.1.2.2.1,x.va.1.va.1,(),x.va.1.va.2.2.1,()),(s.va.1,s.va.2.1,s.va.2.2.1,s.va.va.1,s.va.va.2.1,s.wd.1,()),s.wd.2,()))) (λx=> .leaf zaK (λt=>(Ex.exit 0,⟨[(0,V.ptr 100000 0),(3,V.ptr 300000 0),(4,V.ptr 300001 0),(5,V.ptr 300002 0),(18,jO false)],[(100000,zbe t 300003),(300000,Cell.box 97 [jO x.2.2.1.1,jO x.2.2.1.2.1]),(300001,Cell.box 57 [iK x.va.1.1,iK x.va.1.2.1,KI x.va.1.2.2.1,KI x.va.1.va.1,V.nil 5,jO x.va.1.va.2.2.1]),(300002,Cell.box 57 [iK t.va.1,iK t.va.2.1,KI t.va.2.2.1,KI t.va.va.1,wB 5 t.va.va.2.1,jO t.wd.1]),(300003,Cell.arr false true 0 1 t.wd.2)]⟩))) (λx=>M.xX fH x.2.2.1.1 x.2.2.1.2.1 x.va.1.1 x.va.1.2.1 x.va.1.2.2.1 x.va.1.va.1 x.va.1.va.2.2.1) [fe C.aG,fe C.lQ,fe Iz,fe C.lY] [] (by rintro _ _ ⟨_,_,_,_,_,_,_,_,_,_⟩ _ _<;>unfold M.xX<;>exact zbJ)
def M.yw(fH:zaa)(r' kU:Bool)(c:au)(c1:Int)(c2:Bool)(c3:au)(k:Int×Int×aI×aI×Bool×au×Bool×au×Int×Bool×au->Option R):=cond (aj c3) ((fH r' kU c c1 c2 c3).bind λb=>(M.Aq fH r' kU 0 0 [] [] false (b.2.2.2.2.2.2.2.1,b.2.2.2.2.2.2.2.2.1,b.2.2.2.2.2.2.2.2.2.1,b.1,b.2.1,b.2.2.1,b.2.2.2.1,aF b.2.2.2.2.2.1,b.2.2.2.2.2.2.1,b.2.2.2.2.2.2.2.2.2.2)).bind λa=>cond (aj a.2.2.2.2.2.2.2.2.2) (k (a.2.2.2.1,a.2.2.2.2.1,a.2.2.2.2.2.1,a.2.2.2.2.2.2.1,false,a.2.2.2.2.2.2.2.1,a.2.2.2.2.2.2.2.2.1,a.1,a.2.1,a.2.2.1,a.2.2.2.2.2.2.2.2.2)) none) none
def C.abv{fH:zaa}(Iz:S.lC.ok X0 λx=>fH x.1.2.1.1 x.1.2.1.2.1 x.2.1.1 x.2.1.2.1 x.2.1.2.2.1 x.2.1.va.1):S.ny.ok X0 λx=>M.yw fH x.1.2.1.1 x.1.2.1.2.1 x.2.1.1 x.2.1.2.1 x.2.1.2.2.1 x.2.1.va.1 some:=fnS (λx=>zbI (M.yw fH x.1.2.1.1 x.1.2.1.2.1) x.2.1) [fe Iz] [F.Aq Iz] (by intros;unfold M.yw;exact zbJ)
abbrev M.zx(adS:Int×au×Int×Bool×au)(mW:zaa)(r' kU:Bool)(G9:Int×Int×aI×aI×Bool×au×Bool×au×Int×Bool×au)(k:Int×Int×aI×aI×Bool×au×Bool×au×Int×Bool×au->Option R):=cond (aj adS.2.2.2.2) ((M.aG adS.2.1 adS.2.2.1 adS.2.2.2.1 adS.2.2.2.2).bind λb=>cond (aj b.2.2.2.2) ((mW r' kU b.2.1 (i64.wrap (b.2.2.1+1)) b.2.2.2.1 b.2.2.2.2).bind λa=>(M.lY b.1 G9.1 G9.2.1 G9.2.2.1 G9.2.2.2.1 (aF G9.2.2.2.2.2.1) G9.2.2.2.2.2.2.1 a.1 a.2.1 a.2.2.1 a.2.2.2.1 (aF a.2.2.2.2.2.1) a.2.2.2.2.2.2.1).bind λc=>cond (aj a.2.2.2.2.2.2.2.2.2.2) (k (c.1,c.2.1,c.2.2.1,c.2.2.2.1,false,aF c.2.2.2.2.2.1,c.2.2.2.2.2.2,a.2.2.2.2.2.2.2)) none) none) none
def M.rM(mW:zaa)(r' kU:Bool)(c:au)(c1:Int)(c2:Bool)(c3:au)(k:Int×Int×aI×aI×Bool×au×Bool×au×Int×Bool×au->Option R):=cond (aj c3) ((mW r' kU c c1 c2 c3).bind λa=>cond a.2.2.2.2.2.2.2.2.2.1 (cond (aj a.2.2.2.2.2.2.2.2.2.2) (k (a.1,a.2.1,a.2.2.1,a.2.2.2.1,false,aF a.2.2.2.2.2.1,a.2.2.2.2.2.2)) none) (cond (aj a.2.2.2.2.2.2.2.2.2.2) ((M.aG a.2.2.2.2.2.2.2.1 a.2.2.2.2.2.2.2.2.1 a.2.2.2.2.2.2.2.2.2.1 a.2.2.2.2.2.2.2.2.2.2).bind λb=>(M.mV b.1).bind λe=>cond (e !=7) (cond (aj b.2.2.2.2) (k (a.1,a.2.1,a.2.2.1,a.2.2.2.1,false,aF a.2.2.2.2.2.1,a.2.2.2.2.2.2.1,b.2)) none) (cond kU (cond (aj b.2.2.2.2) ((M.aG b.2.1 b.2.2.1 b.2.2.2.1 b.2.2.2.2).bind λd=>cond (d.1==62) (cond (aj d.2.2.2.2) (k (a.1,a.2.1,a.2.2.1,a.2.2.2.1,false,aF a.2.2.2.2.2.1,a.2.2.2.2.2.2.1,d.2)) none) (M.zx d mW r' kU a k)) none) (M.zx b mW r' kU a k))) none)) none
def C.Xr{mW:zaa}(acr:S.ny.ok X0 λx=>mW x.1.2.1.1 x.1.2.1.2.1 x.2.1.1 x.2.1.2.1 x.2.1.2.2.1 x.2.1.va.1):S.iY.ok X0 λx=>M.rM mW x.1.2.1.1 x.1.2.1.2.1 x.2.1.1 x.2.1.2.1 x.2.1.2.2.1 x.2.1.va.1 some:=fnS (λx=>zbI (M.rM mW x.1.2.1.1 x.1.2.1.2.1) x.2.1) [fe acr,fe C.aG,fe C.mV,fe C.lY] [] (by intros;unfold M.rM M.zx;exact zbJ)
abbrev M.Dc(adT:Int×au×Int×Bool×au)(jm:zaa)(r' kU:Bool)(Lc:Int×Int×aI×aI×Bool×au×Bool×au×Int×Bool×au)(k:Int×Int×aI×aI×Bool×au×Bool×au×Int×Bool×au->Option R):=cond (aj adT.2.2.2.2) ((M.aG adT.2.1 adT.2.2.1 adT.2.2.2.1 adT.2.2.2.2).bind λc=>cond (aj c.2.2.2.2) ((jm r' kU c.2.1 (i64.wrap (c.2.2.1+1)) c.2.2.2.1 c.2.2.2.2).bind λa=>(M.lY c.1 Lc.1 Lc.2.1 Lc.2.2.1 Lc.2.2.2.1 (aF Lc.2.2.2.2.2.1) Lc.2.2.2.2.2.2.1 a.1 a.2.1 a.2.2.1 a.2.2.2.1 (aF a.2.2.2.2.2.1) a.2.2.2.2.2.2.1).bind λb=>cond (aj a.2.2.2.2.2.2.2.2.2.2) (k (b.1,b.2.1,b.2.2.1,b.2.2.2.1,false,aF b.2.2.2.2.2.1,b.2.2.2.2.2.2,a.2.2.2.2.2.2.2)) none) none) none
def M.vF(jm:zaa)(r' kU:Bool)(c:au)(c1:Int)(c2:Bool)(c3:au)(k:Int×Int×aI×aI×Bool×au×Bool×au×Int×Bool×au->Option R):=cond (aj c3) ((jm r' kU c c1 c2 c3).bind λa=>cond a.2.2.2.2.2.2.2.2.2.1 (cond (aj a.2.2.2.2.2.2.2.2.2.2) (k (a.1,a.2.1,a.2.2.1,a.2.2.2.1,false,aF a.2.2.2.2.2.1,a.2.2.2.2.2.2)) none) (cond (aj a.2.2.2.2.2.2.2.2.2.2) ((M.aG a.2.2.2.2.2.2.2.1 a.2.2.2.2.2.2.2.2.1 a.2.2.2.2.2.2.2.2.2.1 a.2.2.2.2.2.2.2.2.2.2).bind λb=>cond (b.1 !=67) (cond (aj b.2.2.2.2) ((M.aG b.2.1 b.2.2.1 b.2.2.2.1 b.2.2.2.2).bind λd=>cond (d.1 !=46) (cond (aj d.2.2.2.2) (k (a.1,a.2.1,a.2.2.1,a.2.2.2.1,false,aF a.2.2.2.2.2.1,a.2.2.2.2.2.2.1,d.2)) none) (M.Dc d jm r' kU a k)) none) (M.Dc b jm r' kU a k)) none)) none
def C.YN{jm:zaa}(X8:S.iY.ok X0 λx=>jm x.1.2.1.1 x.1.2.1.2.1 x.2.1.1 x.2.1.2.1 x.2.1.2.2.1 x.2.1.va.1):S.jk.ok X0 λx=>M.vF jm x.1.2.1.1 x.1.2.1.2.1 x.2.1.1 x.2.1.2.1 x.2.1.2.2.1 x.2.1.va.1 some:=fnS (λx=>zbI (M.vF jm x.1.2.1.1 x.1.2.1.2.1) x.2.1) [fe X8,fe C.aG,fe C.lY] [] (by intros;unfold M.vF M.Dc;exact zbJ)
def M.kS(aT:zag)(bP:zaa)(s:zaT⊕zaL⊕zaM)(kn:zaT⊕zaL⊕zaM->Option R)(ke:zaW⊕zaL⊕zaM->Option R):Option R:=match s with
 | .inl (group,v45,v,v1,v2,x',jl,kW,nT,oO,rY,sV,xO,xw,FD,pF,pU,lT)=>bif !v2 then(bif aj lT then((M.aG v v1 v2 lT).bind λa=>bif a.1==24 then(bif !x' then(bif Nat.ble 1 group.length then(bif aj a.2.2.2.2 then((M.dN a.2.1 (i64.wrap (a.2.2.1+1)) a.2.2.2.1 a.2.2.2.2).bind λf=>kn (.inr (.inl (f.2.1,f.2.2.1,f.2.2.2.1,x',jl,kW,nT,oO,rY,sV,13,0,f.1,[],group,false,f.2.2.2.2)))) else none) else none) else ke (.inl (group,a.2.1,a.2.2.1,a.2.2.2.1,x',jl,kW,nT,oO,rY,sV,xO,xw,FD,pF,pU,a.2.2.2.2))) else ke (.inl (group,a.2.1,a.2.2.1,a.2.2.2.1,x',jl,kW,nT,oO,rY,sV,xO,xw,FD,pF,pU,a.2.2.2.2))) else none) else(ke (.inl (group,v,v1,v2,x',jl,kW,nT,oO,rY,sV,xO,xw,FD,pF,pU,lT)))
 | .inr (.inl (v,v1,v2,x',jl,kW,nT,oO,rY,sV,xO,xw,FD,pF,pU,lT,Pn))=>bif !v2 then(bif aj Pn then((M.aG v v1 v2 Pn).bind λc=>bif c.1==24 then(bif !x' then(bif aj c.2.2.2.2 then((M.dN c.2.1 (i64.wrap (c.2.2.1+1)) c.2.2.2.1 c.2.2.2.2).bind λe=>kn (.inr (.inr (e.2.1,e.2.2.1,e.2.2.2.1,x',jl,kW,nT,oO,rY,sV,13,0,e.1,[],false,e.2.2.2.2,[[D.int .i64 xO,D.int .i64 xw,D.str FD,D.str pF,D.sl false 5 pU]])))) else none) else ke (.inr (.inl (c.2.1,c.2.2.1,c.2.2.2.1,x',jl,kW,nT,oO,rY,sV,xO,xw,FD,pF,pU,lT,c.2.2.2.2)))) else ke (.inr (.inl (c.2.1,c.2.2.1,c.2.2.2.1,x',jl,kW,nT,oO,rY,sV,xO,xw,FD,pF,pU,lT,c.2.2.2.2)))) else none) else(ke (.inr (.inl (v,v1,v2,x',jl,kW,nT,oO,rY,sV,xO,xw,FD,pF,pU,lT,Pn))))
 | .inr (.inr (v,v1,v2,x',jl,kW,nT,oO,rY,sV,xO,xw,FD,pF,pU,lT,Pn))=>bif !v2 then(bif aj lT then((M.aG v v1 v2 lT).bind λb=>bif b.1==24 then(bif !x' then(bif aj b.2.2.2.2 then((M.dN b.2.1 (i64.wrap (b.2.2.1+1)) b.2.2.2.1 b.2.2.2.2).bind λd=>kn (.inr (.inr (d.2.1,d.2.2.1,d.2.2.2.1,x',jl,kW,nT,oO,rY,sV,13,0,d.1,[],false,d.2.2.2.2,[[D.int .i64 xO,D.int .i64 xw,D.str FD,D.str pF,D.sl true 5 Pn]])))) else none) else ke (.inr (.inr (b.2.1,b.2.2.1,b.2.2.2.1,x',jl,kW,nT,oO,rY,sV,xO,xw,FD,pF,pU,b.2.2.2.2,Pn)))) else ke (.inr (.inr (b.2.1,b.2.2.1,b.2.2.2.1,x',jl,kW,nT,oO,rY,sV,xO,xw,FD,pF,pU,b.2.2.2.2,Pn)))) else none) else ke (.inr (.inr (v,v1,v2,x',jl,kW,nT,oO,rY,sV,xO,xw,FD,pF,pU,lT,Pn)))
def M.fJ aT bP s:=M.kS aT bP s (λs=>some (Sum.inl s)) λt=>some (Sum.inr t)
def M.iO aT bP s:=dU (M.fJ aT bP) s
def F.iO{aT:zag}{bP:zaa}(sK:S.zK.ok X0 λx=>aT x.1.2.1 x.2.1.1 x.2.1.2.1 x.2.1.2.2.1 x.2.1.va.1)(KN:S.jk.ok X0 λx=>bP x.1.2.1.1 x.1.2.1.2.1 x.2.1.1 x.2.1.2.1 x.2.1.2.2.1 x.2.1.va.1):LE X0 60:=le 8 (pOr (I5 [cu 0 (pP 100000 0),cu 3 (pP 300000 0),cu 4 (pP 300001 0),cu 5 (pP 300002 0),cu 6 (pL false 5),cu 45 pB] [cu 100000 zbw,cu 300000 (cB 97 [pB,pB]),cu 300001 zbx,cu 300002 zbx,cu 300003 zbu]) (pOr (I5 [cu 0 (pP 100000 0),cu 3 (pP 300000 0),cu 4 (pP 300001 0),cu 5 (pP 300002 0),cu 6 (XZ 5)] [cu 100000 zbw,cu 300000 (cB 97 [pB,pB]),cu 300001 zbx,cu 300002 (cB 57 zbz),cu 300003 zbu]) (I5 [cu 0 (pP 100000 0),cu 3 (pP 300000 0),cu 4 (pP 300001 0),cu 5 (pP 300002 0),cu 6 (XZ 5)] [cu 100000 zbw,cu 300000 (cB 97 [pB,pB]),cu 300001 zbx,cu 300002 (cB 57 [pI,pI,pS,pS,pO 300004 0,pB]),cu 300003 zbu,cu 300004 zbB]))) (σ:=zaT⊕zaL⊕zaM) (λx=>(match x with| .inl x=> .inl ((x.1.va.2.1,x.1.va.2.2.1,x.2.1.1,x.2.1.2.1,x.2.1.2.2.1,x.2.2.1.1,x.2.2.1.2.1,x.va.1.1,x.va.1.2.1,x.va.1.2.2.1,x.va.1.va.1,x.va.1.va.2.2.1,x.va.2.1.1,x.va.2.1.2.1,x.va.2.1.2.2.1,x.va.2.1.va.1,x.va.2.1.va.2.2.1,x.va.2.2.1))| .inr x=>(match x with| .inl x=> .inr (.inl ((x.2.1.1,x.2.1.2.1,x.2.1.2.2.1,x.2.2.1.1,x.2.2.1.2.1,x.va.1.1,x.va.1.2.1,x.va.1.2.2.1,x.va.1.va.1,x.va.1.va.2.2.1,x.va.2.1.1,x.va.2.1.2.1,x.va.2.1.2.2.1,x.va.2.1.va.1,x.va.2.1.va.2.1,x.va.2.1.va.2.2.1,x.va.2.2.1)))| .inr x=> .inr (.inr ((x.2.1.1,x.2.1.2.1,x.2.1.2.2.1,x.2.2.1.1,x.2.2.1.2.1,x.va.1.1,x.va.1.2.1,x.va.1.2.2.1,x.va.1.va.1,x.va.1.va.2.2.1,x.va.2.1.1,x.va.2.1.2.1,x.va.2.1.2.2.1,x.va.2.1.va.1,x.va.2.1.va.2.2.1,x.va.2.2.1,x.va.va.1)))))) (λx s=>(match s with| .inl s=> .inl ((((),(),(),(),s.1,s.2.1,()),((s.2.2.1,s.va.1,s.va.2.1,(),()),(s.va.2.2.1,s.va.va.1,()),(s.va.va.2.1,s.wd.1,s.wd.2.1,s.wd.2.2.1,(),s.wd.va.1,()),(s.wd.va.2.1,s.wd.va.2.2.1,s.wd.va.va.1,s.wd.va.va.2.1,(),s.wd.wd.1,()),s.wd.wd.2,())))| .inr s=>(match s with| .inl s=> .inr (.inl ((((),(),(),(),(),()),((s.1,s.2.1,s.2.2.1,(),()),(s.va.1,s.va.2.1,()),(s.va.2.2.1,s.va.va.1,s.va.va.2.1,s.wd.1,(),s.wd.2.1,()),(s.wd.2.2.1,s.wd.va.1,s.wd.va.2.1,s.wd.va.2.2.1,s.wd.va.va.1,s.wd.va.va.2.1,()),s.wd.wd,()))))| .inr s=> .inr (.inr ((((),(),(),(),(),()),((s.1,s.2.1,s.2.2.1,(),()),(s.va.1,s.va.2.1,()),(s.va.2.2.1,s.va.va.1,s.va.va.2.1,s.wd.1,(),s.wd.2.1,()),(s.wd.2.2.1,s.wd.va.1,s.wd.va.2.1,s.wd.va.2.2.1,(),s.wd.va.va.1,()),s.wd.va.va.2.1,s.wd.wd,()))))))) (λx=> .sum (.leaf zaW (λt=>(Ex.exit 0,⟨[(0,V.ptr 100000 0),(3,V.ptr 300000 0),(4,V.ptr 300001 0),(5,V.ptr 300002 0),(6,wB 5 t.1),(65,jO false)],[(100000,Cell.box 52 [wB 3 t.2.1,iK t.2.2.1,jO t.va.1,V.own 300003 0]),(300000,Cell.box 97 [jO t.va.2.1,jO t.va.2.2.1]),(300001,Cell.box 57 [iK t.va.va.1,iK t.va.va.2.1,KI t.wd.1,KI t.wd.2.1,V.nil 5,jO t.wd.2.2.1]),(300002,Cell.box 57 [iK t.wd.va.1,iK t.wd.va.2.1,KI t.wd.va.2.2.1,KI t.wd.va.va.1,V.nil 5,jO t.wd.va.va.2.1]),(300003,Cell.arr false true 0 1 t.wd.wd)]⟩))) (.sum (.leaf zaL (λt=>(Ex.exit 0,⟨[(0,V.ptr 100000 0),(3,V.ptr 300000 0),(4,V.ptr 300001 0),(5,V.ptr 300002 0),(6,V.nil 5),(65,jO false)],[(100000,zbe t 300003),(300000,Cell.box 97 [jO t.va.1,jO t.va.2.1]),(300001,Cell.box 57 [iK t.va.2.2.1,iK t.va.va.1,KI t.va.va.2.1,KI t.wd.1,V.nil 5,jO t.wd.2.1]),(300002,Cell.box 57 [iK t.wd.2.2.1,iK t.wd.va.1,KI t.wd.va.2.1,KI t.wd.va.2.2.1,wB 5 t.wd.va.va.1,jO t.wd.va.va.2.1]),(300003,Cell.arr false true 0 1 t.wd.wd)]⟩))) (.leaf zaM (λt=>(Ex.exit 0,⟨[(0,V.ptr 100000 0),(3,V.ptr 300000 0),(4,V.ptr 300001 0),(5,V.ptr 300002 0),(6,V.nil 5),(65,jO false)],[(100000,zbe t 300003),(300000,Cell.box 97 [jO t.va.1,jO t.va.2.1]),(300001,Cell.box 57 [iK t.va.2.2.1,iK t.va.va.1,KI t.va.va.2.1,KI t.wd.1,V.nil 5,jO t.wd.2.1]),(300002,Cell.box 57 [iK t.wd.2.2.1,iK t.wd.va.1,KI t.wd.va.2.1,KI t.wd.va.2.2.1,V.own 300004 0,jO t.wd.va.va.1]),(300003,Cell.arr false true 0 1 t.wd.va.va.2.1),(300004,Cell.arr false false 0 5 t.wd.wd)]⟩))))) (λx=>M.kS aT bP) [fe C.aG,fe C.dN] [] (by rintro _ _ (⟨_,_,_,_,_,_,_,_,_,_,_,_,_,_,_,_,_,_⟩|⟨_,_,_,_,_,_,_,_,_,_,_,_,_,_,_,_,_⟩|⟨_,_,_,_,_,_,_,_,_,_,_,_,_,_,_,_,_⟩) _ _<;>unfold M.kS<;>exact zbJ) (hE:=by intro _ _ s _;rcases s with s|s|s<;>kernel_rfl)
abbrev M.IB(afx:au×au×Int×Bool×Bool×Bool×Int×Int×aI×aI×Bool×Int×Int×aI×aI×Bool×au)(k:Int×Int×aI×aI×Bool×au×Bool×au×Int×Bool×au->Option R):=cond (aj afx.2.2.2.2.2.2.2.2.2.2.2.2.2.2.2.2) (k (afx.2.2.2.2.2.2.2.2.2.2.2.1,afx.2.2.2.2.2.2.2.2.2.2.2.2.1,afx.2.2.2.2.2.2.2.2.2.2.2.2.2.1,afx.2.2.2.2.2.2.2.2.2.2.2.2.2.2.1,true,[],afx.2.2.2.2.2.2.2.2.2.2.2.2.2.2.2.1,afx.2.1,afx.2.2.1,afx.2.2.2.1,afx.2.2.2.2.2.2.2.2.2.2.2.2.2.2.2.2)) none
abbrev M.IC(adU:au×Int×Bool×Bool×Bool×Int×Int×aI×aI×Bool×Int×Int×aI×aI×Bool×au×au)(k:Int×Int×aI×aI×Bool×au×Bool×au×Int×Bool×au->Option R):=cond (aj adU.2.2.2.2.2.2.2.2.2.2.2.2.2.2.2.1) (k (adU.2.2.2.2.2.2.2.2.2.2.1,adU.2.2.2.2.2.2.2.2.2.2.2.1,adU.2.2.2.2.2.2.2.2.2.2.2.2.1,adU.2.2.2.2.2.2.2.2.2.2.2.2.2.1,true,adU.2.2.2.2.2.2.2.2.2.2.2.2.2.2.2.2,adU.2.2.2.2.2.2.2.2.2.2.2.2.2.2.1,adU.1,adU.2.1,adU.2.2.1,adU.2.2.2.2.2.2.2.2.2.2.2.2.2.2.2.1)) none
abbrev M.IE(adV:au×Int×Bool×Bool×Bool×Int×Int×aI×aI×Bool×Int×Int×aI×aI×au×Bool×au)(k:Int×Int×aI×aI×Bool×au×Bool×au×Int×Bool×au->Option R):=cond (aj adV.2.2.2.2.2.2.2.2.2.2.2.2.2.2.2.2) (k (adV.2.2.2.2.2.2.2.2.2.2.1,adV.2.2.2.2.2.2.2.2.2.2.2.1,adV.2.2.2.2.2.2.2.2.2.2.2.2.1,adV.2.2.2.2.2.2.2.2.2.2.2.2.2.1,false,adV.2.2.2.2.2.2.2.2.2.2.2.2.2.2.1,adV.2.2.2.2.2.2.2.2.2.2.2.2.2.2.2.1,adV.1,adV.2.1,adV.2.2.1,adV.2.2.2.2.2.2.2.2.2.2.2.2.2.2.2.2)) none
abbrev M.yx(aT:zag)(bP:zaa)(afy:Int×Int×aI×aI×Bool×au×Bool×au×Int×Bool×au)(r' kU:Bool)(k:Int×Int×aI×aI×Bool×au×Bool×au×Int×Bool×au->Option R):=(M.iO aT bP (.inr (.inl (afy.2.2.2.2.2.2.2.1,afy.2.2.2.2.2.2.2.2.1,afy.2.2.2.2.2.2.2.2.2.1,r',kU,0,0,[],[],false,afy.1,afy.2.1,afy.2.2.1,afy.2.2.2.1,aF afy.2.2.2.2.2.1,afy.2.2.2.2.2.2.1,afy.2.2.2.2.2.2.2.2.2.2)))).bind λf=>kT f (λc=>cond (aj c.2.2.2.2.2.2.2.2.2.2.2.2.2.2.2.2) (k (c.2.2.2.2.2.2.2.2.2.2.2.1,c.2.2.2.2.2.2.2.2.2.2.2.2.1,c.2.2.2.2.2.2.2.2.2.2.2.2.2.1,c.2.2.2.2.2.2.2.2.2.2.2.2.2.2.1,true,[],c.2.2.2.2.2.2.2.2.2.2.2.2.2.2.2.1,c.2.1,c.2.2.1,c.2.2.2.1,c.2.2.2.2.2.2.2.2.2.2.2.2.2.2.2.2)) none) λe=>kT e (λb=>cond (aj b.2.2.2.2.2.2.2.2.2.2.2.2.2.2.2.2) (k (b.2.2.2.2.2.2.2.2.2.2.1,b.2.2.2.2.2.2.2.2.2.2.2.1,b.2.2.2.2.2.2.2.2.2.2.2.2.1,b.2.2.2.2.2.2.2.2.2.2.2.2.2.1,false,b.2.2.2.2.2.2.2.2.2.2.2.2.2.2.1,b.2.2.2.2.2.2.2.2.2.2.2.2.2.2.2.1,b.1,b.2.1,b.2.2.1,b.2.2.2.2.2.2.2.2.2.2.2.2.2.2.2.2)) none) λd=>letE d λa=>cond (aj a.2.2.2.2.2.2.2.2.2.2.2.2.2.2.2.1) (k (a.2.2.2.2.2.2.2.2.2.2.1,a.2.2.2.2.2.2.2.2.2.2.2.1,a.2.2.2.2.2.2.2.2.2.2.2.2.1,a.2.2.2.2.2.2.2.2.2.2.2.2.2.1,true,a.2.2.2.2.2.2.2.2.2.2.2.2.2.2.2.2,a.2.2.2.2.2.2.2.2.2.2.2.2.2.2.1,a.1,a.2.1,a.2.2.1,a.2.2.2.2.2.2.2.2.2.2.2.2.2.2.2.1)) none
def M.zM(aT:zag)(bP:zaa)(r' kU:Bool)(c:au)(c1:Int)(c2:Bool)(c3:au)(k:Int×Int×aI×aI×Bool×au×Bool×au×Int×Bool×au->Option R):=cond (!c2) (cond (aj c3) ((M.aG c c1 c2 c3).bind λf=>cond (f.1==32) (cond (!r') (cond (aj f.2.2.2.2) ((M.mF f.2.1 f.2.2.1 f.2.2.2.1 f.2.2.2.2).bind λd=>cond d.1 (cond (aj d.2.2.2.2) ((aT 33 d.2.1 (i64.wrap (d.2.2.1+1)) d.2.2.2.1 d.2.2.2.2).bind λa=>cond (!a.2.2.2.2.1) (cond (aj a.2.2.2.2.2) ((M.aG a.2.2.1 a.2.2.2.1 a.2.2.2.2.1 a.2.2.2.2.2).bind λe=>cond (e.1 !=24) (cond (aj e.2.2.2.2) ((M.iQ e.2.1 e.2.2.1 e.2.2.2.1 e.2.2.2.2).bind λb=>cond (aj b.2.2.2.2.2.2.2.2.2.2) (k (b.1,b.2.1,b.2.2.1,b.2.2.2.1,false,aF b.2.2.2.2.2.1,b.2.2.2.2.2.2)) none) none) ((M.iO aT bP (.inl (aF a.2.1,false,e.2.1,e.2.2.1,e.2.2.2.1,r',kU,0,0,[],[],false,0,0,[],[],false,e.2.2.2.2))).bind λr=>kT r (λp=>M.IB p k) λi=>kT i (λv=>M.IE v k) λu=>letE u λn=>M.IC n k)) none) ((M.iO aT bP (.inl (aF a.2.1,false,a.2.2.1,a.2.2.2.1,a.2.2.2.2.1,r',kU,0,0,[],[],false,0,0,[],[],false,a.2.2.2.2.2))).bind λw=>kT w (λo=>M.IB o k) λj=>kT j (λh=>M.IE h k) λl=>letE l λt=>M.IC t k)) none) (cond (aj d.2.2.2.2) ((bP r' kU d.2.1 d.2.2.1 d.2.2.2.1 d.2.2.2.2).bind λg=>M.yx aT bP g r' kU k) none)) none) (cond (aj f.2.2.2.2) ((bP r' kU f.2.1 f.2.2.1 f.2.2.2.1 f.2.2.2.2).bind λq=>M.yx aT bP q r' kU k) none)) (cond (aj f.2.2.2.2) ((bP r' kU f.2.1 f.2.2.1 f.2.2.2.1 f.2.2.2.2).bind λm=>M.yx aT bP m r' kU k) none)) none) (cond (aj c3) ((bP r' kU c c1 c2 c3).bind λs=>M.yx aT bP s r' kU k) none)
def C.acw{aT:zag}{bP:zaa}(sK:S.zK.ok X0 λx=>aT x.1.2.1 x.2.1.1 x.2.1.2.1 x.2.1.2.2.1 x.2.1.va.1)(KN:S.jk.ok X0 λx=>bP x.1.2.1.1 x.1.2.1.2.1 x.2.1.1 x.2.1.2.1 x.2.1.2.2.1 x.2.1.va.1):S.nI.ok X0 λx=>M.zM aT bP x.1.2.1.1 x.1.2.1.2.1 x.2.1.1 x.2.1.2.1 x.2.1.2.2.1 x.2.1.va.1 some:=fnS (λx=>zbI (M.zM aT bP x.1.2.1.1 x.1.2.1.2.1) x.2.1) [fe C.aG,fe C.mF,fe sK,fe C.iQ,fe KN] [F.iO sK KN] (by intros;unfold M.zM M.yx M.IE M.IC M.IB;exact zbJ)
def M.xY(fV:zaa)(x' jl:Bool)(kW nT:Int)(oO rY:aI)(sV:Bool)(s:au×Int×Bool×Int×Int×aI×aI×au×Bool×au)(kn:au×Int×Bool×Int×Int×aI×aI×au×Bool×au->Option R)(ke:au×Int×Bool×Int×Int×aI×aI×au×Bool×au->Option R):Option R:=match s with
 |(v,v1,v2,xO,xw,FD,pF,pU,lT,Pn)=>bif !v2 then(bif aj Pn then((M.aG v v1 v2 Pn).bind λa=>bif a.1==45 then(bif aj a.2.2.2.2 then((M.gJ a.2.1 (i64.wrap (a.2.2.1+1)) a.2.2.2.1 a.2.2.2.2).bind λd=>bif aj d.2.2.2 then((fV x' jl d.1 d.2.1 d.2.2.1 d.2.2.2).bind λb=>(M.lY 45 xO xw FD pF pU lT b.1 b.2.1 b.2.2.1 b.2.2.2.1 (aF b.2.2.2.2.2.1) b.2.2.2.2.2.2.1).bind λc=>kn (b.2.2.2.2.2.2.2.1,b.2.2.2.2.2.2.2.2.1,b.2.2.2.2.2.2.2.2.2.1,c.1,c.2.1,c.2.2.1,c.2.2.2.1,aF c.2.2.2.2.2.1,c.2.2.2.2.2.2,b.2.2.2.2.2.2.2.2.2.2)) else none) else none) else ke (a.2.1,a.2.2.1,a.2.2.2.1,xO,xw,FD,pF,pU,lT,a.2.2.2.2)) else none) else ke (v,v1,v2,xO,xw,FD,pF,pU,lT,Pn)
def M.Jt fV x' jl kW nT oO rY sV s:=M.xY fV x' jl kW nT oO rY sV s (λs=>some (Sum.inl s)) λt=>some (Sum.inr t)
def M.Ar fV x' jl kW nT oO rY sV s:=dU (M.Jt fV x' jl kW nT oO rY sV) s
def F.Ar{fV:zaa}(Kr:S.nI.ok X0 λx=>fV x.1.2.1.1 x.1.2.1.2.1 x.2.1.1 x.2.1.2.1 x.2.1.2.2.1 x.2.1.va.1):LE X0 59:=le 2 (I5 [cu 0 (pP 100000 0),cu 3 (pP 300000 0),cu 4 (pP 300001 0),cu 5 (pP 300002 0)] [cu 100000 zbw,cu 300000 (cB 97 [pB,pB]),cu 300001 zbx,cu 300002 (cB 57 zbz),cu 300003 zbu]) (λx=>(x.2.1.1,x.2.1.2.1,x.2.1.2.2.1,x.va.2.1.1,x.va.2.1.2.1,x.va.2.1.2.2.1,x.va.2.1.va.1,x.va.2.1.va.2.1,x.va.2.1.va.2.2.1,x.va.2.2.1)) (λx s=>(((),(),(),(),()),((s.1,s.2.1,s.2.2.1,(),()),(x.2.2.1.1,x.2.2.1.2.1,()),(x.va.1.1,x.va.1.2.1,x.va.1.2.2.1,x.va.1.va.1,(),x.va.1.va.2.2.1,()),(s.va.1,s.va.2.1,s.va.2.2.1,s.va.va.1,s.va.va.2.1,s.wd.1,()),s.wd.2,()))) (λx=> .leaf zaK (λt=>(Ex.exit 0,⟨[(0,V.ptr 100000 0),(3,V.ptr 300000 0),(4,V.ptr 300001 0),(5,V.ptr 300002 0),(18,jO false)],[(100000,zbe t 300003),(300000,Cell.box 97 [jO x.2.2.1.1,jO x.2.2.1.2.1]),(300001,Cell.box 57 [iK x.va.1.1,iK x.va.1.2.1,KI x.va.1.2.2.1,KI x.va.1.va.1,V.nil 5,jO x.va.1.va.2.2.1]),(300002,Cell.box 57 [iK t.va.1,iK t.va.2.1,KI t.va.2.2.1,KI t.va.va.1,wB 5 t.va.va.2.1,jO t.wd.1]),(300003,Cell.arr false true 0 1 t.wd.2)]⟩))) (λx=>M.xY fV x.2.2.1.1 x.2.2.1.2.1 x.va.1.1 x.va.1.2.1 x.va.1.2.2.1 x.va.1.va.1 x.va.1.va.2.2.1) [fe C.aG,fe C.gJ,fe Kr,fe C.lY] [] (by rintro _ _ ⟨_,_,_,_,_,_,_,_,_,_⟩ _ _<;>unfold M.xY<;>exact zbJ)
def M.yA(fV:zaa)(r' kU:Bool)(c:au)(c1:Int)(c2:Bool)(c3:au)(k:Int×Int×aI×aI×Bool×au×Bool×au×Int×Bool×au->Option R):=cond (aj c3) ((fV r' kU c c1 c2 c3).bind λa=>(M.Ar fV r' kU 0 0 [] [] false (a.2.2.2.2.2.2.2.1,a.2.2.2.2.2.2.2.2.1,a.2.2.2.2.2.2.2.2.2.1,a.1,a.2.1,a.2.2.1,a.2.2.2.1,aF a.2.2.2.2.2.1,a.2.2.2.2.2.2.1,a.2.2.2.2.2.2.2.2.2.2)).bind λb=>cond (aj b.2.2.2.2.2.2.2.2.2) (k (b.2.2.2.1,b.2.2.2.2.1,b.2.2.2.2.2.1,b.2.2.2.2.2.2.1,false,b.2.2.2.2.2.2.2.1,b.2.2.2.2.2.2.2.2.1,b.1,b.2.1,b.2.2.1,b.2.2.2.2.2.2.2.2.2)) none) none
def C.abw{fV:zaa}(Kr:S.nI.ok X0 λx=>fV x.1.2.1.1 x.1.2.1.2.1 x.2.1.1 x.2.1.2.1 x.2.1.2.2.1 x.2.1.va.1):S.lD.ok X0 λx=>M.yA fV x.1.2.1.1 x.1.2.1.2.1 x.2.1.1 x.2.1.2.1 x.2.1.2.2.1 x.2.1.va.1 some:=fnS (λx=>zbI (M.yA fV x.1.2.1.1 x.1.2.1.2.1) x.2.1) [fe Kr] [F.Ar Kr] (by intros;unfold M.yA;exact zbJ)
def M.y9(fK:zaa)(x' jl:Bool)(kW nT:Int)(oO rY:aI)(sV:Bool)(s:au×Int×Bool×Int×Int×aI×aI×au×Bool×au)(kn:au×Int×Bool×Int×Int×aI×aI×au×Bool×au->Option R)(ke:au×Int×Bool×Int×Int×aI×aI×au×Bool×au->Option R):Option R:=match s with
 |(v,v1,v2,xO,xw,FD,pF,pU,lT,Pn)=>bif !v2 then(bif aj Pn then((M.aG v v1 v2 Pn).bind λa=>bif a.1==44 then(bif aj a.2.2.2.2 then((M.gJ a.2.1 (i64.wrap (a.2.2.1+1)) a.2.2.2.1 a.2.2.2.2).bind λd=>bif aj d.2.2.2 then((fK x' jl d.1 d.2.1 d.2.2.1 d.2.2.2).bind λb=>(M.lY 44 xO xw FD pF pU lT b.1 b.2.1 b.2.2.1 b.2.2.2.1 (aF b.2.2.2.2.2.1) b.2.2.2.2.2.2.1).bind λc=>kn (b.2.2.2.2.2.2.2.1,b.2.2.2.2.2.2.2.2.1,b.2.2.2.2.2.2.2.2.2.1,c.1,c.2.1,c.2.2.1,c.2.2.2.1,aF c.2.2.2.2.2.1,c.2.2.2.2.2.2,b.2.2.2.2.2.2.2.2.2.2)) else none) else none) else ke (a.2.1,a.2.2.1,a.2.2.2.1,xO,xw,FD,pF,pU,lT,a.2.2.2.2)) else none) else ke (v,v1,v2,xO,xw,FD,pF,pU,lT,Pn)
def M.KO fK x' jl kW nT oO rY sV s:=M.y9 fK x' jl kW nT oO rY sV s (λs=>some (Sum.inl s)) λt=>some (Sum.inr t)
def M.Df fK x' jl kW nT oO rY sV s:=dU (M.KO fK x' jl kW nT oO rY sV) s
def F.Df{fK:zaa}(IG:S.lD.ok X0 λx=>fK x.1.2.1.1 x.1.2.1.2.1 x.2.1.1 x.2.1.2.1 x.2.1.2.2.1 x.2.1.va.1):LE X0 58:=le 2 (I5 [cu 0 (pP 100000 0),cu 3 (pP 300000 0),cu 4 (pP 300001 0),cu 5 (pP 300002 0)] [cu 100000 zbw,cu 300000 (cB 97 [pB,pB]),cu 300001 zbx,cu 300002 (cB 57 zbz),cu 300003 zbu]) (λx=>(x.2.1.1,x.2.1.2.1,x.2.1.2.2.1,x.va.2.1.1,x.va.2.1.2.1,x.va.2.1.2.2.1,x.va.2.1.va.1,x.va.2.1.va.2.1,x.va.2.1.va.2.2.1,x.va.2.2.1)) (λx s=>(((),(),(),(),()),((s.1,s.2.1,s.2.2.1,(),()),(x.2.2.1.1,x.2.2.1.2.1,()),(x.va.1.1,x.va.1.2.1,x.va.1.2.2.1,x.va.1.va.1,(),x.va.1.va.2.2.1,()),(s.va.1,s.va.2.1,s.va.2.2.1,s.va.va.1,s.va.va.2.1,s.wd.1,()),s.wd.2,()))) (λx=> .leaf zaK (λt=>(Ex.exit 0,⟨[(0,V.ptr 100000 0),(3,V.ptr 300000 0),(4,V.ptr 300001 0),(5,V.ptr 300002 0),(18,jO false)],[(100000,zbe t 300003),(300000,Cell.box 97 [jO x.2.2.1.1,jO x.2.2.1.2.1]),(300001,Cell.box 57 [iK x.va.1.1,iK x.va.1.2.1,KI x.va.1.2.2.1,KI x.va.1.va.1,V.nil 5,jO x.va.1.va.2.2.1]),(300002,Cell.box 57 [iK t.va.1,iK t.va.2.1,KI t.va.2.2.1,KI t.va.va.1,wB 5 t.va.va.2.1,jO t.wd.1]),(300003,Cell.arr false true 0 1 t.wd.2)]⟩))) (λx=>M.y9 fK x.2.2.1.1 x.2.2.1.2.1 x.va.1.1 x.va.1.2.1 x.va.1.2.2.1 x.va.1.va.1 x.va.1.va.2.2.1) [fe C.aG,fe C.gJ,fe IG,fe C.lY] [] (by rintro _ _ ⟨_,_,_,_,_,_,_,_,_,_⟩ _ _<;>unfold M.y9<;>exact zbJ)
def M.zN(fK:zaa)(r' kU:Bool)(c:au)(c1:Int)(c2:Bool)(c3:au)(k:Int×Int×aI×aI×Bool×au×Bool×au×Int×Bool×au->Option R):=cond (aj c3) ((fK r' kU c c1 c2 c3).bind λa=>(M.Df fK r' kU 0 0 [] [] false (a.2.2.2.2.2.2.2.1,a.2.2.2.2.2.2.2.2.1,a.2.2.2.2.2.2.2.2.2.1,a.1,a.2.1,a.2.2.1,a.2.2.2.1,aF a.2.2.2.2.2.1,a.2.2.2.2.2.2.1,a.2.2.2.2.2.2.2.2.2.2)).bind λb=>cond (aj b.2.2.2.2.2.2.2.2.2) (k (b.2.2.2.1,b.2.2.2.2.1,b.2.2.2.2.2.1,b.2.2.2.2.2.2.1,false,b.2.2.2.2.2.2.2.1,b.2.2.2.2.2.2.2.2.1,b.1,b.2.1,b.2.2.1,b.2.2.2.2.2.2.2.2.2)) none) none
def C.acy{fK:zaa}(IG:S.lD.ok X0 λx=>fK x.1.2.1.1 x.1.2.1.2.1 x.2.1.1 x.2.1.2.1 x.2.1.2.2.1 x.2.1.va.1):S.oI.ok X0 λx=>M.zN fK x.1.2.1.1 x.1.2.1.2.1 x.2.1.1 x.2.1.2.1 x.2.1.2.2.1 x.2.1.va.1 some:=fnS (λx=>zbI (M.zN fK x.1.2.1.1 x.1.2.1.2.1) x.2.1) [fe IG] [F.Df IG] (by intros;unfold M.zN;exact zbJ)
end
end Go.Proofs.YthmchnpcplgciaaGreatDoor
