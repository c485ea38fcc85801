import Derived.RangeFuncBox
import Derived.RangeFuncLeaves
import Derived.RangeFuncNested
import Derived.Shelf.Abstract
import Derived.Shelf.RegionOpen
import Derived.WalkKit
import Derived.OwnWalkIn
import Derived.TacticsInMore
import Derived.LoopNIn
import Derived.LoopIn
import Derived.Test.YtcallmiaialhkaaGreatDoorProg
import Derived.Test.YtcallmiaialhkaaGreatDoorVm4
import Derived.Lib.Bytealg
import Derived.Lib.AtoiTie
import Derived.Lib.ItoaMem
set_option linter.defProp false
namespace Go.Proofs.YtcallmiaialhkaaGreatDoor
set_option linter.unusedVariables false
set_option linter.unusedSimpArgs false
open Go Go.Proofs Go.RowKit Go.Shelf
attribute [local go_sem] Oper.semAt_some
def aeA(zs:List Int)(j:Nat):Int×Int:=((j:Int),zs[j]?.getD 0)
def bk(zs:List Int)(k:Nat):List (Int×Int):=(List.range k).map λt=>aeA zs (zs.length - 1 - t)
def ah4(zs:List Int)(k:Nat):bk zs (k+1)=bk zs k++[aeA zs (zs.length - 1 - k)]:=by simp[bk,List.range_succ]
def aeB(zs:List Int)(k:Nat):(bk zs k).length=k:=by simp[bk]
def KpB(n₀ Bs:Nat)(W W':World):Prop:=Below n₀ W W'/\∀v,W.cell? ⟨Bs,0,none⟩=some v->W'.cell? ⟨Bs,0,none⟩=some v
def KpB.refl(n₀ Bs:Nat)(W:World):KpB n₀ Bs W W:=⟨Below.refl _ _,λ_ h=>h⟩
def KpB.trans{n₀ Bs:Nat}{A B C:World}(h:KpB n₀ Bs A B)(k:KpB n₀ Bs B C):KpB n₀ Bs A C:=⟨h.1.trans k.1,λv hv=>k.2 v (h.2 v hv)⟩
set_option maxRecDepth 100000 in
set_option maxHeartbeats 4000000 in
def agi(F:Fence)(n:Nat)(h7:F.fn 135)(hro:F.round=none)(hn:1<=n)(l Bs n₀ b off cap:Nat)(zs:List Int)(hreach:zs.length * 8<=140737488351232)(hb:b<n₀)(J Jx:List (Int×Int)->World->Prop)
  (hY:∀pre x W,J pre W->pre.length<zs.length->YieldAt F (n - 1) Tryz.prog l #[.int .i64 x.1,.int .i64 x.2] W λe W'=>(e=.returned (.bool true)/\J (pre++[x]) W'/\KpB n₀ Bs W W')\/(e=.returned (.bool false)/\Jx (pre++[x]) W'))
  (W:World) (hBs:W.cell? ⟨Bs,0,none⟩=some (.slice (some ⟨b,off,none⟩) zs.length cap)) (hc:∀j,j<zs.length->W.cell? ⟨b,off+j,none⟩=some (.int .i64 (zs[j]?.getD 0))) (h0:J [] W):
  CallsIn F n Tryz.prog 135 #[.func (.yield l) #[] #[],.pointer (some ⟨Bs,0,none⟩)] W λe W'=>(∃v,e=.returned v)/\
   ((∃ys,ys=bk zs zs.length/\J ys W')\/(∃pre,(∃k,k<=zs.length/\pre=bk zs k)/\Jx pre W')):=by
 refine callsIn_of_wp Tryz.func135 rfl h7 ?_ hro;simp only[Tryz.ntmps135,List.size_toArray,List.length_cons,List.length_nil,Nat.reduceAdd,Nat.reduceSub,Array.replicate_succ,Array.replicate_zero,List.push_toArray,List.append_toArray,List.nil_append,List.cons_append]
 gi_wp2
 gi_loopw [3] (λi wr=>∃m k:Nat,k+m=zs.length/\i=.int .i64 ((m:Int) - 1)/\J (bk zs k) wr/\KpB n₀ Bs W wr)
  (λi _=>(intOf i+1).toNat)
 case atStart=>exact⟨zs.length,0,by omega,rfl,h0,KpB.refl _ _ _⟩
 case round=>
  obtain⟨m,k,hk,rfl,hJs,hnx⟩:=hrel;have aEb:=hnx.2 _ hBs;cases m with
  |zero=>
   obtain rfl:k=zs.length:=by omega
   gi_wp2
   go_end0
   exact⟨⟨_,rfl⟩,.inl ⟨_,rfl,hJs⟩⟩
  |succ j=>
   have hj:j<zs.length:=by omega
   have e1:(((j+1:Nat):Int) - 1)=(j:Int):=by omega
   simp only[e1];have hcx:wr.cell? ⟨b,off+j,none⟩=some (.int .i64 (zs[j]?.getD 0)):=(hnx.1.cell (p:=⟨b,off+j,none⟩) hb).trans (hc j hj);obtain⟨fn,tmps,assign,body,hy,hR⟩:=hY _ (aeA zs j) wr hJs (by rw[aeB];omega);dsimp only[aeA] at hy;have ek:bk zs k++[aeA zs j]=bk zs (k+1):=by rw[ah4];rw[show zs.length - 1 - k=j by omega]
   rw[ek] at hR;clear ek hY;generalize zs[j]?.getD 0=z at hy hcx
   gi_wp2
   refine hR.mono ?_;rintro e W3 (⟨rfl,hJ3,hk3⟩|⟨rfl,hJx3⟩)
   ·gi_wp2
    go_roundw
    case rel=>exact⟨j,k+1,by omega,rfl,hJ3,hnx.trans hk3⟩
    case measure=>simp[intOf]
   ·gi_wp2
    refine bodyPost_ret (results_none rfl _ _ _) rfl ?_;exact⟨⟨_,rfl⟩,.inr ⟨_,⟨k+1,by omega,rfl⟩,hJx3⟩⟩
set_option maxRecDepth 100000 in
set_option maxHeartbeats 1000000 in
def Zj(F:Fence)(n:Nat)(h7:F.fn 135)(hro:F.round=none)(l Bs cap:Nat)(a:Option Addr)(J:List (Int×Int)->World->Prop)(W:World)(hBs:W.cell? ⟨Bs,0,none⟩=some (.slice a 0 cap))(h0:J [] W):
  CallsIn F n Tryz.prog 135 #[.func (.yield l) #[] #[],.pointer (some ⟨Bs,0,none⟩)] W λe W'=>(∃v,e=.returned v)/\J [] W':=by
 refine callsIn_of_wp Tryz.func135 rfl h7 ?_ hro;simp only[Tryz.ntmps135,List.size_toArray,List.length_cons,List.length_nil,Nat.reduceAdd,Nat.reduceSub,Array.replicate_succ,Array.replicate_zero,List.push_toArray,List.append_toArray,List.nil_append,List.cons_append]
 gi_wp2
 gi_loopw [3] (λi wr=>i=.int .i64 (-1)/\J [] wr) (λ_ _=>0)
 case atStart=>exact⟨rfl,h0⟩
 case round=>
  obtain⟨rfl,hJs⟩:=hrel
  gi_wp2
  go_end0
  exact⟨⟨_,rfl⟩,hJs⟩
set_option maxHeartbeats 1000000 in
def ah5(F:Fence)(n:Nat)(h5:F.fn 112)(hro:F.round=none)(a:Option Addr)(len cap:Nat)(w:World):
  CallsIn F n Tryz.prog 112 #[.slice a len cap] w λe w'=>e=.returned (.func (.func 135) #[] #[.pointer (some ⟨w.heap.size,0,none⟩)])/\w'=w.alloc (.cells #[.slice a len cap] 54):=by
 refine callsIn_of_wp Tryz.func112 rfl h5 ?_ hro;simp only[Tryz.ntmps112,List.size_toArray,List.length_cons,List.length_nil,Nat.reduceAdd,Nat.reduceSub,Array.replicate_succ,Array.replicate_zero,List.push_toArray,List.append_toArray,List.nil_append,List.cons_append]
 gi_wp2
 go_ret
 exact⟨rfl,rfl⟩
def OB(n₀:Nat)(W:World)(sv:Value)(zs:List Int):Prop:=
 ∃a cap,sv=.slice a zs.length cap/\(zs≠[]->∃b off,a=some ⟨b,off,none⟩/\b<n₀/\∀j,j<zs.length->W.cell? ⟨b,off+j,none⟩=some (.int .i64 (zs[j]?.getD 0)))
def OB.below{n₀:Nat}{A B:World}(h:Below n₀ A B){sv:Value}{zs:List Int}(q:OB n₀ A sv zs):OB n₀ B sv zs:=by obtain⟨a,cap,e,q⟩:=q;refine⟨a,cap,e,λhz=> ?_⟩;obtain⟨b,off,e2,hb,hc⟩:=q hz;exact⟨b,off,e2,hb,λj hj=>(h.cell (p:=⟨b,off+j,none⟩) hb).trans (hc j hj)⟩
def aci(F:Fence)(n:Nat)(h7:F.fn 135)(hro:F.round=none)(hn:1<=n)(Bs n₀:Nat)(sv:Value)(zs:List Int)(hreach:zs.length * 8<=140737488351232)(w:World)(hBs:Bs<w.heap.size)(hn₀:n₀<=w.heap.size)
  (hc:w.cell? ⟨Bs,0,none⟩=some sv) (hI:OB n₀ w sv zs):
  SeqStopsK F n Tryz.prog 135 #[.pointer (some ⟨Bs,0,none⟩)] (λx:Int×Int=>#[Value.int .i64 x.1,Value.int .i64 x.2]) (KpB n₀ Bs) (λys=>ys=bk zs zs.length)
   (λpre=>∃k,k<=zs.length/\pre=bk zs k) zs.length w:=λl J Jx W hW _ _ hY h0=>by
 have hc':=(hW.cell (p:=⟨Bs,0,none⟩) hBs).trans hc;obtain⟨a,cap,rfl,q⟩:=hI.below (hW.mono hn₀)
 by_cases hz:zs=[]
 ·subst hz;exact(Zj F n h7 hro l Bs cap a J W hc' h0).mono λe W' ⟨he,hj⟩=>⟨he,.inl ⟨_,rfl,hj⟩⟩
 ·obtain⟨b,off,rfl,hb,hcs⟩:=q hz;exact agi F n h7 hro hn l Bs n₀ b off cap zs hreach hb J Jx hY W hc' hcs h0
def KpB.keeps{n₀ Bs:Nat}(W:World)(l:Nat)(o o':Obj)(hl:n₀<=l)(h:W.heap[l]? =some o)(h1:o.isCells=false)(h2:o.isWalk=false):KpB n₀ Bs W (W.putObj l o'):=by
 refine⟨(Below.refl n₀ W).trans ⟨rfl,rfl,rfl, ?_, ?_⟩, ?_⟩
 ·simp[World.putObj]
 ·intro k hk;exact World.putObj_heap_other (by omega)
 ·intro v hv
  by_cases hb:Bs=l
  ·subst hb;unfold World.cell? at hv;simp only[h] at hv;cases o<;>simp_all [Obj.isCells]
  ·rw[<-hv];exact World.cell?_of_block (World.putObj_heap_other hb)
end Go.Proofs.YtcallmiaialhkaaGreatDoor
namespace Go.Proofs.YtcallmiaialhkaaGreatDoor
set_option linter.unusedVariables false
set_option linter.unusedSimpArgs false
open Go.Vm (dN gu jY)
open Go Go.Proofs Go.RowKit Go.Shelf
attribute [local go_sem] Oper.semAt_some
structure Nk where
 kind:Int
 op:Int
 text:ByteArray
 other:ByteArray
 kids:List Int
def agj(n₀:Nat)(W:World)(b o:Nat)(n:Nk):Prop:=
 ∃sv,W.cell? ⟨b,o,none⟩=some (.int .i64 n.kind)/\W.cell? ⟨b,o+1,none⟩=some (.int .i64 n.op)/\W.cell? ⟨b,o+2,none⟩=some (.string n.text)/\W.cell? ⟨b,o+3,none⟩=some (.string n.other)/\W.cell? ⟨b,o+4,none⟩=some sv/\OB n₀ W sv n.kids
def adw(n₀:Nat)(W:World)(sv:Value)(l:List Nk):Prop:=
 ∃a cap,sv=.slice a l.length cap/\(l≠[]->∃b off,a=some ⟨b,off,none⟩/\b<n₀/\∀i n,l[i]? =some n->agj n₀ W b (off+i * 5) n)
def Yb(F:Fence)(n:Nat)(h5:F.fn 30)(hro:F.round=none)(x lo hi:Int)(w:World):
  CallsIn F n Tryz.prog 30 #[.int .i64 x,.int .i64 lo,.int .i64 hi] w λe w'=>e=.returned (.bool (decide (lo<=x) && decide (x<=hi)))/\w'=w:=by
 refine callsIn_of_wp Tryz.func30 rfl h5 ?_ hro;simp only[Tryz.ntmps30,List.size_toArray,List.length_cons,List.length_nil,Nat.reduceAdd,Nat.reduceSub,Array.replicate_succ,Array.replicate_zero,List.push_toArray,List.append_toArray,List.nil_append,List.cons_append]
 gi_wp2
 all_goals go_ret
 all_goals refine⟨?_,rfl⟩
 ·rename_i h;rw[decide_eq_true h,Bool.true_and];rfl
 ·rename_i h;rw[decide_eq_false (by omega),Bool.false_and];rfl
def PW(st:List Int):Prop:=∀(j:Nat) x,st[j]? =some x->0<=x/\x<=j
def Jm{st:List Int}(h:PW st)(j:Nat):0<=st[j]?.getD 0/\st[j]?.getD 0<=j:=by
 cases hj:st[j]? with
 |none=>simp
 |some x=>exact h j x hj
def Ba{st:List Int}(h:PW st):∀(ks:List Int) (a r:Int), -1<=a->a<st.length->dN st ks a=some r-> -1<=r/\r<st.length
 |[],a,r,h1,h2,e=>by rw[dN] at e;cases e;exact⟨h1,h2⟩
 |k::ks,a,r,h1,h2,e=>by
  rw[dN] at e;split at e
  ·cases e
  ·rename_i hc;have hk:=Jm h k.toNat;exact Ba h ks _ r (by omega) (by omega) e
def Lm(st:List Int)(k:List Int):∀(ks:List Int) (a:Int),dN st (ks++k) a=(dN st ks a).bind λr=>dN st k r
 |[],a=>rfl
 |x::ks,a=>by
  rw[List.cons_append,dN,dN];split
  ·rfl
  ·exact Lm st k ks _
def II:∀(l l':List (List Int)) (st:List Int),gu st (l++l')=(gu st l).bind λs=>gu s l'
 |[],l',st=>rfl
 |n::l,l',st=>by
  rw[List.cons_append,gu,gu];cases dN st n.reverse ((st.length:Int) - 1) with
  |none=>rfl
  |some a=>exact II l l' _
def JV:∀(l:List (List Int)) (st r:List Int),gu st l=some r->r.length=st.length+l.length
 |[],st,r,h=>by rw[gu] at h;cases h;rfl
 |n::l,st,r,h=>by
  rw[gu] at h;split at h
  ·cases h
  ·have:=JV l _ r h;simp at this|-;omega
def MH{st:List Int}(h:PW st){a:Int}(h1: -1<=a)(h2:a<st.length):PW (st++[a+1]):=by
 intro j x hj;rw[List.getElem?_append] at hj;split at hj
 ·exact h j x hj
 ·rename_i hn;have:j - st.length=0:=by
   cases hd:j - st.length with
   |zero=>rfl
   |succ d=>rw[hd] at hj;simp at hj
  rw[this] at hj;simp at hj;omega
def QC:∀(l:List (List Int)) (st r:List Int),PW st->gu st l=some r->PW r
 |[],st,r,h0,h=>by rw[gu] at h;cases h;exact h0
 |n::l,st,r,h0,h=>by
  rw[gu] at h;split at h
  ·cases h
  ·rename_i a ha;have:=Ba h0 _ _ _ (by omega) (by omega) ha;exact QC l _ r (MH h0 this.1 this.2) h
def Lp:PW []:=λj x h=>by simp at h
def IJ(W:World)(a:Addr)(u:Value):W.grownBy (W.setCell a u) (some a.block):=
 ⟨rfl,rfl,rfl,by simp[World.setCell],λk _ hk=>Below.heap_setCell _ _ _ k (λe=>hk (by rw[e]))⟩
def DK(len:Nat)(st:List Int):Array Value:=(st.map (Value.int .i64)++List.replicate (len - st.length) (Value.int .i64 0)).toArray
def OC{len:Nat}{st:List Int}(h:st.length<=len):(DK len st).size=len:=by simp[DK];omega
def QD{len:Nat}{st:List Int}{j:Nat}(h:j<len):(DK len st)[j]? =some (.int .i64 (st[j]?.getD 0)):=by
 simp only[DK,List.getElem?_toArray];rw[List.getElem?_append];split
 ·rename_i hj;simp at hj;simp[hj]
 ·rename_i hj;simp at hj;rw[List.getElem?_replicate,if_pos (by simp;omega),List.getElem?_eq_none (by omega)];rfl
def aeC{len:Nat}{st:List Int}(h:st.length<len)(x:Int):(DK len st).setIfInBounds st.length (.int .i64 x)=DK len (st++[x]):=by
 apply Array.ext
 ·simp[DK];omega
 ·intro j h1 h2;apply Option.some.inj;rw[<-Array.getElem?_eq_getElem,<-Array.getElem?_eq_getElem];have hj:j<len:=by rw[Array.size_setIfInBounds,OC (by omega)] at h1;exact h1
  rw[QD hj,Array.getElem?_setIfInBounds];split
  ·rename_i e;subst e;rw[if_pos (by rw[OC (by omega)];exact h)];simp
  ·rename_i e;rw[QD hj,List.getElem?_append];split
   ·rfl
   ·rw[List.getElem?_eq_none (by omega),List.getElem?_eq_none (by simp;omega)]
structure uP(w:World)(len:Nat)(st:List Int)(W:World):Prop where
 b0:Boxed W w.heap.size 54 (.slice none 0 0)
 b1:Boxed W (w.heap.size+1) 4 (.bool false)
 b2:W.heap[w.heap.size+2]? =some (.cells (DK len st) 3 (0,0))
 b3:Boxed W (w.heap.size+3) 54 (.slice (some ⟨w.heap.size+2,0,none⟩) len len)
 bel:Below w.heap.size w W
def uP.grown{w:World}{len:Nat}{st:List Int}{A B:World}(h:uP w len st A){row:Option Nat}(hg:A.grownBy B row)(hr:∀r,row=some r->w.heap.size+3<r):uP w len st B:=by
 have ne:∀k,k<=w.heap.size+3->some k≠row:=λk hk e=>by have:=hr k e.symm;omega
 refine⟨h.b0.kept hg (ne _ (by omega)),h.b1.kept hg (ne _ (by omega)), ?_,h.b3.kept hg (ne _ (by omega)),h.bel.grown hg h.bel.size λk e=>by have:=hr k e;omega⟩;rw[hg.block _ (Array.getElem?_eq_some_iff.1 h.b2).1 (ne _ (by omega))];exact h.b2
def uP.alloc{w:World}{len:Nat}{st:List Int}{A:World}(h:uP w len st A)(o:Obj):uP w len st (A.alloc o):=h.grown (World.grownBy_alloc A o none) (λr e=>by cases e)
def uP.size{w:World}{len:Nat}{st:List Int}{A:World}(h:uP w len st A):w.heap.size+3<A.heap.size:=h.b3.lt
def uP.set{w:World}{len:Nat}{st:List Int}{A:World}(h:uP w len st A){b:Nat}(hb:w.heap.size+3<b)(u:Value):uP w len st (A.setCell ⟨b,0,none⟩ u):=h.grown (IJ A _ u) (λr e=>by cases e;exact hb)
def uP.fail{w:World}{len:Nat}{st:List Int}{A:World}(h:uP w len st A):uP w len st ((A.setCell ⟨w.heap.size,0,none⟩ (.slice none 0 0)).setCell ⟨w.heap.size+1,0,none⟩ (.bool false)):=by refine⟨(h.b0.set _).other (by omega) _,(h.b1.other (by omega) _).set _, ?_,(h.b3.other (by omega) _).other (by omega) _,(h.bel.setCell (p:=⟨w.heap.size,0,none⟩) (Nat.le_refl _) _).setCell (p:=⟨w.heap.size+1,0,none⟩) (Nat.le_succ _) _⟩;rw[Below.heap_setCell _ _ _ _ (by simp),Below.heap_setCell _ _ _ _ (by simp)];exact h.b2
def uP.push{w:World}{len:Nat}{st:List Int}{A:World}(h:uP w len st A)(hl:st.length<len)(x:Int):uP w len (st++[x]) (A.setCell ⟨w.heap.size+2,st.length,none⟩ (.int .i64 x)):=by
 have hg:=IJ A ⟨w.heap.size+2,st.length,none⟩ (.int .i64 x);have ne:∀k,k≠w.heap.size+2->some k≠some (w.heap.size+2):=λk hk e=>hk (Option.some.inj e)
 refine⟨h.b0.kept hg (ne _ (by omega)),h.b1.kept hg (ne _ (by omega)), ?_,h.b3.kept hg (ne _ (by omega)),h.bel.setCell (p:=⟨w.heap.size+2,st.length,none⟩) (Nat.le_add_right _ _) _⟩;obtain⟨hlt,hk⟩:=Array.getElem?_eq_some_iff.1 h.b2;show(A.heap.modify (w.heap.size+2) _)[w.heap.size+2]? =_;rw[Array.getElem?_eq_getElem (by rw[Array.size_modify];exact hlt),Array.getElem_modify_self,hk];show some (Obj.cells (if(none:Option _).isSome then _ else _) _ _)=_;rw[if_neg (by simp),aeC hl]
def uP.elem{w:World}{len:Nat}{st:List Int}{A:World}(h:uP w len st A){j:Nat}(hj:j<len):A.cell? ⟨w.heap.size+2,j,none⟩=some (.int .i64 (st[j]?.getD 0)):=by simp only[World.cell?,h.b2];simp[QD hj]
def uP.agk{w:World}{len:Nat}{st:List Int}{A:World}(h:uP w len st A)(j:Nat):A.frozen? ⟨w.heap.size+2,j,none⟩=false:=by simp[World.frozen?,h.b2]
structure Marks(n:Nat)(ms:List Nat)(W:World):Prop where
 nd:ms.Nodup
 at_:∀D,D∈ms->n+3<D/\W.heap[D]? =some (.deferred (some []))
def Marks.grown{n:Nat}{ms:List Nat}{A B:World}(h:Marks n ms A){row:Option Nat}(hg:A.grownBy B row)(hr:∀r,row=some r->r ∉ ms):Marks n ms B:=by refine⟨h.nd,λD hD=>⟨(h.at_ D hD).1, ?_⟩⟩;rw[hg.block D (Array.getElem?_eq_some_iff.1 (h.at_ D hD).2).1 (λe=>hr D e.symm hD)];exact(h.at_ D hD).2
def Marks.lt{n:Nat}{ms:List Nat}{A:World}(h:Marks n ms A):∀D,D∈ms->D<A.heap.size:=λD hD=>(Array.getElem?_eq_some_iff.1 (h.at_ D hD).2).1
def Marks.alloc{n:Nat}{ms:List Nat}{A:World}(h:Marks n ms A)(o:Obj):Marks n ms (A.alloc o):=h.grown (World.grownBy_alloc A o none) (λr e=>by cases e)
def Marks.set{n:Nat}{ms:List Nat}{A:World}(h:Marks n ms A)(a:Addr)(u:Value){c:Array Value}{t:TypeId}{f:Nat×Nat}(ha:A.heap[a.block]? =some (.cells c t f)):Marks n ms (A.setCell a u):=
 h.grown (IJ A a u) (λr e hr=>by cases e;have:=(h.at_ _ hr).2;rw[ha] at this;cases this)
def agl(D:Nat):Deferred:={target:=.collected D,args:=#[]}
set_option maxRecDepth 100000 in
def ah6(n:Nat)(hn:n<=400)(w:World):(Instr.makeSlice 54 (.int .i64 (n:Int)) (.int .i64 (n:Int))).run Tryz.prog w=.ok (.slice (some ⟨w.heap.size,0,none⟩) n n) (w.alloc (.cells (DK n []) 3)):=by
 obtain⟨i0,hi,hz0,hz1,hz2⟩:=info_parts (P:=Tryz.prog) (e:=3) (z:=.int .i64 0) (size:=1) (bytes:=8) (by kernel_rfl);rw[run_makeSlice w 54 3 i0 _ Tryz.underlying54 hi hz0 .i64 .i64 n n (by omega) (by omega) (by rw[hz1];simp;omega) (by rw[hz2];omega) (by omega)];simp only[Int.toNat_natCast];rw[hz1];congr 3;apply Array.ext
 ·simp[size_madeCells,DK]
 ·intro j h1 h2;simp[madeCells,DK,Value.cells,Nat.mod_one]
def JW{F:Fence}{n:Nat}{P:Program}{fn:Func}{tmps:Array Value}{R:Ending->World->Prop}{b:Nat}(K:World->Prop)(hK:∀W D,K W->b+3<D->K (W.putObj D (.deferred none)))
  (he:∀W,K W->LeavesIn F n P fn tmps R [] .returning W):∀(ms:List Nat) (W:World),K W->Marks b ms W->LeavesInM F n P fn tmps R (ms.map agl) .returning W
 |[],W,k,_=>he W k
 |D::ms,W,k,h=>by
  obtain⟨h1,h2⟩:=h.at_ D List.mem_cons_self;refine⟨by simp,.inl ⟨D,_,rfl,run_takeDeferred h2, ?_⟩⟩;refine JW K hK he ms _ (hK W D k h1) ?_;have nd:=List.nodup_cons.1 h.nd;have h':Marks b ms W:=⟨nd.2,λd hd=>h.at_ d (List.mem_cons_of_mem _ hd)⟩
  exact h'.grown (grownBy_putObj' W D _) (λr e=>by cases e;exact nd.1)
end Go.Proofs.YtcallmiaialhkaaGreatDoor
namespace Go.Proofs.YtcallmiaialhkaaGreatDoor
set_option linter.unusedVariables false
set_option linter.unusedSimpArgs false
open Go.Vm (dN gu jY)
open Go Go.Proofs Go.RowKit Go.Shelf
attribute [local go_sem] Oper.semAt_some
def QE(st:List Int)(pre:List Int)(a r k:Int)(h:dN st pre a=some r):dN st (pre++[k]) a=if r<0\/k≠r then none else some ((st[k.toNat]?.getD 0) - 1):=by rw[Lm,h];rfl
def Marks.fail{w:World}{len:Nat}{st:List Int}{ms:List Nat}{A:World}(hB:uP w len st A)(h:Marks w.heap.size ms A):Marks w.heap.size ms ((A.setCell ⟨w.heap.size,0,none⟩ (.slice none 0 0)).setCell ⟨w.heap.size+1,0,none⟩ (.bool false)):=
 (h.set ⟨w.heap.size,0,none⟩ _ hB.b0).set ⟨w.heap.size+1,0,none⟩ _ (hB.b1.other (by omega) _)
def agm(zs:List Int):(bk zs zs.length).map (λx:Int×Int=>x.2)=zs.reverse:=by
 apply List.ext_getElem
 ·simp[bk]
 ·intro i h1 h2;have hi:i<zs.length:=by simpa[bk] using h1
  simp[bk,aeA];rw[List.getElem?_eq_getElem (by omega)];rfl
def aeD(zs:List Int){k:Nat}(hk:k<=zs.length):∃r,bk zs zs.length=bk zs k++r:=by
 refine⟨(bk zs zs.length).drop k, ?_⟩;have h:bk zs k=(bk zs zs.length).take k:=by unfold bk;rw[<-List.map_take,List.take_range,Nat.min_eq_left hk]
 rw[h,List.take_append_drop]
def aeE{st zs:List Int}{k:Nat}{a:Int}(hk:k<=zs.length)(h:dN st ((bk zs k).map (λx:Int×Int=>x.2)) a=none):dN st zs.reverse a=none:=by obtain⟨r,hr⟩:=aeD zs hk;rw[<-agm,hr,List.map_append,Lm,h];rfl
def aaK{l:List Nk}{i:Nat}{nd:Nk}{st:List Int}(hnd:l[i]? =some nd)(hs:gu [] ((l.take i).map (·.kids))=some st)(h:dN st nd.kids.reverse ((st.length:Int) - 1)=none):gu [] (l.map (·.kids))=none:=by
 have hd:l.drop i=nd::l.drop (i+1):=by obtain⟨h1,h2⟩:=List.getElem?_eq_some_iff.1 hnd;rw[List.drop_eq_getElem_cons h1,h2]
 have e:l.map (·.kids)=(l.take i).map (·.kids)++(nd.kids::(l.drop (i+1)).map (·.kids)):=by rw[<-List.map_cons,<-hd,<-List.map_append,List.take_append_drop]
 rw[e,II,hs];show gu st (nd.kids::_)=none;rw[gu,h]
def acj(w:World)(l:List Nk)(e:Ending)(w':World):Prop:=
 Below w.heap.size w w'/\∃g bb,e=.returned (.tuple #[g,.bool bb])/\
  ((jY (l.map (·.kids))=none/\g=.slice none 0 0/\bb=false)\/
   ∃st,jY (l.map (·.kids))=some st/\g=.slice (some ⟨w.heap.size+2,0,none⟩) l.length l.length/\w'.heap[w.heap.size+2]? =some (.cells (DK l.length st) 3 (0,0))/\bb=(st[l.length - 1]?.getD 0==0))
def agn{tmps:Array Value}{w W:World}{g:Value}{bb:Bool}(h2:tmps.getD 2 undef=.pointer (some ⟨w.heap.size,0,none⟩))(h3:tmps.getD 3 undef=.pointer (some ⟨w.heap.size+1,0,none⟩))
  (b0:Boxed W w.heap.size 54 g) (b1:Boxed W (w.heap.size+1) 4 (.bool bb)) (hg:∃a n c,g=.slice a n c):(results Tryz.f88 tmps).run Tryz.prog W=.ok (.tuple #[g,.bool bb]) W:=by
 obtain⟨a,n,c,rfl⟩:=hg;have c0:=b0.cell;have c1:=b1.cell;refine Vm.RN (P:=Tryz.prog) (w:=W) (fn:=Tryz.f88) (tmps:=tmps) (gs:=[.slice a n c,.bool bb]) ?_ rfl;intro i x hx;have hr:Tryz.f88.results.toList=[.cell 2 54,.cell 3 4]:=rfl;rw[hr] at hx
 match i,hx with
 |0,hx=>cases hx;refine⟨_,rfl, ?_⟩;simp only[Vm.YW,h2];simp[go_sem,c0]
 |1,hx=>cases hx;refine⟨_,rfl, ?_⟩;simp only[Vm.YW,h3];simp[go_sem,c1]
 |i+2,hx=>simp at hx
set_option maxRecDepth 100000 in
set_option maxHeartbeats 4000000 in
def aeF(w:World)(a:Option Addr)(cap:Nat)(l:List Nk)(hl:l.length<=140737488351232)(hkl:∀n,n∈l->n.kids.length * 8<=140737488351232)(hN:adw w.heap.size w (.slice a l.length cap) l):
  CallsIn Fence.wide 9 Tryz.prog 88 #[.slice a l.length cap] w λe w'=>acj w l e w':=by
 refine callsIn_of_wp_marks Tryz.func88 rfl trivial ?_ rfl;simp only[Tryz.ntmps88,List.size_toArray,List.length_cons,List.length_nil,Nat.reduceAdd,Nat.reduceSub,Array.replicate_succ,Array.replicate_zero,List.push_toArray,List.append_toArray,List.nil_append,List.cons_append]
 by_cases hb:(decide (1<=(l.length:Int)) && decide ((l.length:Int)<=400))=true
 ·have hmk:=λW=>ah6 l.length (by simp at hb;omega) W
  gi_wp2_with (refine⟨trivial, ?_⟩;gi_at_call 30;refine(Yb Fence.wide _ trivial rfl _ _ _ _).mono ?_;rintro e w' ⟨rfl,rfl⟩;rw[hb])
  refine wpIn_loop (λa' W=>∃(U:Nat->Value) (i:Nat) (st:List Int) (ms:List Nat),i<=l.length/\gu [] ((l.take i).map (·.kids))=some st/\st.length=i/\uP w l.length st W/\Marks w.heap.size ms W/\
   a'={tmps:=#[.slice a l.length cap,undef,.pointer (some ⟨w.heap.size,0,none⟩),.pointer (some ⟨w.heap.size+1,0,none⟩),.pointer (some ⟨w.heap.size+3,0,none⟩),U 5,U 6,U 7,undef,U 9,.slice a l.length cap,.int .i64 (l.length:Int),.bool true,.bool false,.slice a l.length cap,.int .i64 (l.length:Int),.slice (some ⟨w.heap.size+2,0,none⟩) l.length l.length,.slice a l.length cap,.int .i64 (l.length:Int),.int .i64 (i:Int),U 20,U 21,U 22,U 23,U 24,U 25,U 26,U 27,U 28,U 29,U 30,U 31,U 32,U 33,U 34,U 35,U 36,U 37,U 38,U 39,U 40,U 41,U 42,U 43,U 44,U 45,U 46,U 47,U 48,U 49,U 50,U 51,U 52,U 53,U 54,U 55,U 56],defers:=ms.map agl}) (λa' _=>((l.length:Int) - intOf (a'.tmps.getD 19 undef)).toNat) ?start ?round
  case start=>
   refine⟨λ_=>undef,0,[],[],Nat.zero_le _,by simp[gu],rfl, ?_,⟨List.nodup_nil,λD h=>by cases h⟩, ?_⟩
   ·have g0:=Boxed.new w 54 (.slice none 0 0);have g1:=Boxed.new (w.alloc (.cells #[.slice none 0 0] 54)) 4 (.bool false);have g2:=World.alloc_heap_new ((w.alloc (.cells #[.slice none 0 0] 54)).alloc (.cells #[.bool false] 4)) (.cells (DK l.length []) 3);have g3:=Boxed.new (((w.alloc (.cells #[.slice none 0 0] 54)).alloc (.cells #[.bool false] 4)).alloc (.cells (DK l.length []) 3)) 54 (.slice (some ⟨w.heap.size+2,0,none⟩) l.length l.length);simp only[World.size_alloc] at g1 g2 g3;refine⟨((g0.alloc _).alloc _).alloc _,(g1.alloc _).alloc _, ?_,g3, ?_⟩
    ·rw[Below.heap_alloc _ _ _ (by simp)];exact g2
    ·exact((((Below.refl _ w).alloc (Nat.le_refl _) _).alloc (by simp) _).alloc (by simp;omega) _).alloc (by simp;omega) _
   ·rfl
  case round=>
   rintro a' W ⟨U,i,st,ms,hi,hs,hsl,hB,hM,rfl⟩;have hst:=QC _ _ _ Lp hs
   by_cases hlt:i<l.length
   ·obtain⟨a0,cap0,ea,hN'⟩:=hN;have hne:l≠[]:=by intro e;subst e;simp at hlt
    obtain⟨b,off,e1,hbn,hnodes⟩:=hN' hne;cases ea;subst e1;clear hN';obtain⟨nd,hnd⟩:∃nd,l[i]? =some nd:=⟨l[i],by simp[hlt]⟩
    have hkn:=hkl nd (List.mem_of_getElem? hnd);obtain⟨sv,h0,h1,h2,h3,h4,hk⟩:=hnodes i nd hnd;have hkW:=hk.below hB.bel;have c0:W.cell? ⟨b,off+i * 5,none⟩=some (.int .i64 nd.kind):=(hB.bel.cell (p:=⟨b,off+i * 5,none⟩) hbn).trans h0;have c1:W.cell? ⟨b,off+i * 5+1,none⟩=some (.int .i64 nd.op):=(hB.bel.cell (p:=⟨b,off+i * 5+1,none⟩) hbn).trans h1;have c2:W.cell? ⟨b,off+i * 5+2,none⟩=some (.string nd.text):=(hB.bel.cell (p:=⟨b,off+i * 5+2,none⟩) hbn).trans h2;have c3:W.cell? ⟨b,off+i * 5+3,none⟩=some (.string nd.other):=(hB.bel.cell (p:=⟨b,off+i * 5+3,none⟩) hbn).trans h3;have c4:W.cell? ⟨b,off+i * 5+4,none⟩=some sv:=(hB.bel.cell (p:=⟨b,off+i * 5+4,none⟩) hbn).trans h4;obtain⟨ka,kc,esv,hkc⟩:=hk;subst esv;clear hnodes h0 h1 h2 h3 h4 hkc
    gi_wp2_with (refine⟨trivial, ?_⟩;gi_at_call 112;refine(ah5 Fence.wide _ trivial rfl _ _ _ _).mono ?_;rintro e w' ⟨rfl,rfl⟩)
    clear c0 c1 c2 c3 c4;obtain⟨o1,ho1⟩:∃o,o=Obj.cells #[Value.int .i64 nd.kind,.int .i64 nd.op,.string nd.text,.string nd.other,.slice ka nd.kids.length kc] 56:=⟨_,rfl⟩
    rw[<-ho1];have hsz:=hB.size;have bA:=(Boxed.new (W.alloc o1) 3 (.int .i64 ((i:Int) - 1))).alloc (.cells #[.slice ka nd.kids.length kc] 54);have bS:=Boxed.new ((W.alloc o1).alloc (.cells #[.int .i64 ((i:Int) - 1)] 3)) 54 (.slice ka nd.kids.length kc);have hB1:=((hB.alloc o1).alloc (.cells #[.int .i64 ((i:Int) - 1)] 3)).alloc (.cells #[.slice ka nd.kids.length kc] 54);have hM1:=((hM.alloc o1).alloc (.cells #[.int .i64 ((i:Int) - 1)] 3)).alloc (.cells #[.slice ka nd.kids.length kc] 54);obtain⟨WL,hWL⟩:∃WL,WL=((W.alloc o1).alloc (.cells #[.int .i64 ((i:Int) - 1)] 3)).alloc (.cells #[.slice ka nd.kids.length kc] 54):=⟨_,rfl⟩
    rw[<-hWL] at bA bS hB1 hM1|-;simp only[World.size_alloc] at bA bS;have hWs:WL.heap.size=W.heap.size+3:=by rw[hWL];simp
    have auh:OB w.heap.size WL (.slice ka nd.kids.length kc) nd.kids:=hkW.below (by rw[hWL];exact(((Below.refl _ W).alloc (by omega) _).alloc (by simp;omega) _).alloc (by simp;omega) _);clear hWL ho1 hkW;have ah7:=hM.lt;refine wpIn_rangeFunc_ownG rfl (by decide) (gf:=135) (lb:=#[.pointer (some ⟨W.heap.size+1+1,0,none⟩)]) rfl trivial (enters_of Tryz.func135 (by kernel_rfl) rfl)
     (aci Fence.wide 8 trivial rfl (by decide) (W.heap.size+1+1) w.heap.size _ nd.kids hkn WL (by omega) (by omega) bS.cell auh)
     (λh k=>h.trans k) (λW' k o o' hk h h1 h2=>KpB.keeps W' k o o' (by omega) h h1 h2) (Below.refl _ _) (λ_=>rfl)
     (λpre WX=>uP w l.length st WX/\Marks w.heap.size ms WX/\∃at_,dN st (pre.map (·.2)) ((i:Int) - 1)=some at_/\Boxed WX (W.heap.size+1) 3 (.int .i64 at_))
     (λc pre WX=>c=.ret/\uP w l.length st WX/\Marks w.heap.size ms WX/\dN st (pre.map (·.2)) ((i:Int) - 1)=none)
     (by rintro s A B row ⟨q1,q2,at_,q3,q4⟩ hg hr;refine⟨q1.grown hg (λr e=>by have:=(hr r e).1;omega),q2.grown hg (λr e hm=>by have:=(hr r e).1;have:=ah7 r hm;omega),at_,q3,q4.kept hg (λe=>by have:=(hr _ e.symm).1;omega)⟩)
     (by rintro c s A B row ⟨q0,q1,q2,q3⟩ hg hr;exact⟨q0,q1.grown hg (λr e=>by have:=(hr r e).1;omega),q2.grown hg (λr e hm=>by have:=(hr r e).1;have:=ah7 r hm;omega),q3⟩)
     ⟨hB1,hM1,_,rfl,bA⟩
     (λx=>{tmps:=#[.slice (some ⟨b,off,none⟩) l.length cap,undef,.pointer (some ⟨w.heap.size,0,none⟩),.pointer (some ⟨w.heap.size+1,0,none⟩),.pointer (some ⟨w.heap.size+3,0,none⟩),.int .i64 (i:Int),.pointer (some ⟨W.heap.size,0,none⟩),.pointer (some ⟨W.heap.size+1,0,none⟩),undef,.int .i64 x.2,.slice (some ⟨b,off,none⟩) l.length cap,.int .i64 (l.length:Int),.bool true,.bool false,.slice (some ⟨b,off,none⟩) l.length cap,.int .i64 (l.length:Int),.slice (some ⟨w.heap.size+2,0,none⟩) l.length l.length,.slice (some ⟨b,off,none⟩) l.length cap,.int .i64 (l.length:Int),.int .i64 (i:Int),.bool true,.int .i64 (i:Int),.pointer (some ⟨b,off+i * 5,none⟩),.agg #[.int .i64 nd.kind,.int .i64 nd.op,.string nd.text,.string nd.other,.slice ka nd.kids.length kc],.int .i64 (i:Int),.int .i64 ((i:Int) - 1),.pointer (some ⟨W.heap.size,4,none⟩),.slice ka nd.kids.length kc,.func (.func 135) #[] #[.pointer (some ⟨W.heap.size+1+1,0,none⟩)],.int .i64 x.1,.int .i64 x.2,U 31,U 32,U 33,U 34,U 35,U 36,U 37,U 38,U 39,U 40,U 41,U 42,U 43,U 44,U 45,U 46,U 47,U 48,U 49,U 50,U 51,U 52,U 53,U 54,U 55,U 56],defers:=[]}) ?assign ?body ?done ?stop
    case assign=>
     intro l' x WX K hK
     gi_wp2
     exact hK
    case body=>
     rintro l' pre x WX ⟨q1,q2,at_,q3,q4⟩ _;have hr:=Ba hst _ _ _ (by omega) (by omega) q3;have d4:=q4.cell;have d4f:=q4.frozen;have d3:=q1.b3.cell;have d0:=q1.b0.cell;have d0f:=q1.b0.frozen;have d1:=q1.b1.cell;have d1f:=q1.b1.frozen
     by_cases hneg:at_<0
     ·gi_wp2
      exact⟨((KeepsOthers.setCell _ _ _).trans (KeepsOthers.setCell _ _ _)).from _,rfl,q1.fail,Marks.fail q1 q2,by simp only[List.map_append,List.map_cons,List.map_nil];rw[QE st _ _ _ x.2 q3,if_pos (.inl hneg)]⟩
     ·obtain⟨j,rfl⟩:∃j:Nat,at_=(j:Int):=⟨at_.toNat,by omega⟩
      by_cases hke:x.2=(j:Int)
      ·have hz:=Jm hst j;have de:=q1.elem (j:=j) (by omega);have def_:=q1.agk j;have hsn:=QE st (pre.map (·.2)) _ _ x.2 q3;rw[hke] at hsn;simp only[Int.toNat_natCast] at hsn;generalize st[j]?.getD 0=z at hz de hsn
       gi_wp2
       refine⟨(KeepsOthers.setCell _ _ _).from _,⟨(Below.refl _ _).setCell (p:=⟨W.heap.size+1,0,none⟩) (by show w.heap.size<=W.heap.size+1;omega) _,λv hv=> ?_⟩,q1.set (by omega) _,q2.set _ _ q4,z - 1, ?_,q4.set _⟩
       ·rw[<-hv];exact World.cell?_of_block (Below.heap_setCell _ _ _ _ (by show W.heap.size+1+1≠W.heap.size+1;omega))
       ·simp only[List.map_append,List.map_cons,List.map_nil];rw[hke,hsn,if_neg (by omega)]
      ·gi_wp2
       exact⟨((KeepsOthers.setCell _ _ _).trans (KeepsOthers.setCell _ _ _)).from _,rfl,q1.fail,Marks.fail q1 q2,by simp only[List.map_append,List.map_cons,List.map_nil];rw[QE st _ _ _ x.2 q3,if_pos (.inr hke)]⟩
    case done=>
     rintro D xs WX hD rfl ⟨q1,q2,at_,q3,q4⟩ hK;have hr:=Ba hst _ _ _ (by omega) (by omega) q3;have d3:=q1.b3.cell;have d4:=q4.cell;have de:=q1.elem (j:=i) (by omega);have def_:=q1.agk i;generalize st[i]?.getD 0=z at de
     gi_wp2
     have ei:((i:Int)+1)=((i+1:Nat):Int):=by omega
     rw[ei];have hx:(List.map (λx:Int×Int=>x.2) (bk nd.kids nd.kids.length))=nd.kids.reverse:=agm _;rw[hx] at q3;have hcells:=q1.b2;refine⟨⟨λk=>#[Value.slice (some ⟨b,off,none⟩) l.length cap,undef,Value.pointer (some ⟨w.heap.size,0,none⟩),Value.pointer (some ⟨w.heap.size+1,0,none⟩),Value.pointer (some ⟨w.heap.size+3,0,none⟩),Value.int .i64 (i:Int),Value.pointer (some ⟨W.heap.size,0,none⟩),Value.pointer (some ⟨W.heap.size+1,0,none⟩),undef,U 9,Value.slice (some ⟨b,off,none⟩) l.length cap,Value.int .i64 (l.length:Int),Value.bool true,Value.bool false,Value.slice (some ⟨b,off,none⟩) l.length cap,Value.int .i64 (l.length:Int),Value.slice (some ⟨w.heap.size+2,0,none⟩) l.length l.length,Value.slice (some ⟨b,off,none⟩) l.length cap,Value.int .i64 (l.length:Int),Value.int .i64 ((i+1:Nat):Int),Value.bool true,Value.int .i64 (i:Int),Value.pointer (some ⟨b,off+i * 5,none⟩),Value.agg #[.int .i64 nd.kind,.int .i64 nd.op,.string nd.text,.string nd.other,.slice ka nd.kids.length kc],Value.int .i64 (i:Int),Value.int .i64 ((i:Int) - 1),Value.pointer (some ⟨W.heap.size,4,none⟩),Value.slice ka nd.kids.length kc,Value.func (.func 135) #[] #[.pointer (some ⟨W.heap.size+1+1,0,none⟩)],U 29,U 30,U 31,U 32,U 33,U 34,U 35,U 36,U 37,U 38,U 39,U 40,U 41,U 42,Value.slice (some ⟨w.heap.size+2,0,none⟩) l.length l.length,Value.int .i64 (i:Int),Value.int .i64 at_,Value.int .i64 (at_+1),Value.pointer (some ⟨w.heap.size+2,i,none⟩),Value.int .i64 ((i+1:Nat):Int),U 49,U 50,U 51,U 52,U 53,U 54,U 55,U 56].getD k undef,i+1,st++[at_+1],D::ms,hlt, ?_,by simp[hsl], ?_, ?_,rfl⟩, ?_⟩
     ·rw[List.take_add_one,hnd,Option.toList_some,List.map_append,II,hs];show gu st [nd.kids]=_;rw[gu,hsl,q3];rfl
     ·rw[<-hsl];exact q1.push (by omega) _
     ·refine⟨List.nodup_cons.2 ⟨λhm=>by have:=ah7 D hm;omega,q2.nd⟩,λd hd=> ?_⟩;have hset:=q2.set ⟨w.heap.size+2,i,none⟩ (.int .i64 (at_+1)) q1.b2;rcases List.mem_cons.1 hd with rfl|hd
      ·refine⟨by omega, ?_⟩;rw[Below.heap_setCell _ _ _ _ (by show d≠w.heap.size+2;omega)];exact hK
      ·exact hset.at_ d hd
     ·simp[intOf];omega
    case stop=>
     rintro D c pre WX hD ⟨k,hkz,rfl⟩ ⟨rfl,q1,q2,q3⟩ hK
     gi_wp2
     have hM2:Marks w.heap.size (D::ms) WX:=⟨List.nodup_cons.2 ⟨λhm=>by have:=ah7 D hm;omega,q2.nd⟩,λd hd=>by
      rcases List.mem_cons.1 hd with rfl|hd
      ·exact⟨by omega,hK⟩
      ·exact q2.at_ d hd⟩
     refine JW (b:=w.heap.size) (λW'=>uP w l.length st W') (λW' d h hd=>h.grown (grownBy_putObj' W' d _) (λr e=>by cases e;exact hd)) ?_ (D::ms) WX q1 hM2;intro W' q;refine⟨_,agn (w:=w) rfl rfl q.b0 q.b1 ⟨none,0,0,rfl⟩,q.bel,_,_,rfl,.inl ⟨?_,rfl,rfl⟩⟩;simp at hb;rw[jY,if_pos (by simp;omega)];exact aaK hnd hs (by rw[hsl];exact aeE hkz q3)
   ·obtain rfl:i=l.length:=by omega
    simp at hb;have d3:=hB.b3.cell;have d0:=hB.b0.cell;have d0f:=hB.b0.frozen;have d1:=hB.b1.cell;have d1f:=hB.b1.frozen;have de:=hB.elem (j:=l.length - 1) (by omega);have def_:=hB.agk (l.length - 1);generalize hz:st[l.length - 1]?.getD 0=z at de
    gi_wp2
    gi_region
    all_goals gi_wp2
    have k0:Boxed ((W.setCell ⟨w.heap.size,0,none⟩ (.slice (some ⟨w.heap.size+2,0,none⟩) l.length l.length)).setCell ⟨w.heap.size+1,0,none⟩ (.bool (z==0))).drew w.heap.size 54 (.slice (some ⟨w.heap.size+2,0,none⟩) l.length l.length):=(hB.b0.set _).other (by omega) _;have k1:Boxed ((W.setCell ⟨w.heap.size,0,none⟩ (.slice (some ⟨w.heap.size+2,0,none⟩) l.length l.length)).setCell ⟨w.heap.size+1,0,none⟩ (.bool (z==0))).drew (w.heap.size+1) 4 (.bool (z==0)):=(hB.b1.other (by omega) _).set _;have k2:((W.setCell ⟨w.heap.size,0,none⟩ (.slice (some ⟨w.heap.size+2,0,none⟩) l.length l.length)).setCell ⟨w.heap.size+1,0,none⟩ (.bool (z==0))).drew.heap[w.heap.size+2]? =some (.cells (DK l.length st) 3 (0,0)):=by show((W.setCell _ _).setCell _ _).heap[w.heap.size+2]? =_;rw[Below.heap_setCell _ _ _ _ (by simp),Below.heap_setCell _ _ _ _ (by simp)];exact hB.b2
    have k3:Below w.heap.size w ((W.setCell ⟨w.heap.size,0,none⟩ (.slice (some ⟨w.heap.size+2,0,none⟩) l.length l.length)).setCell ⟨w.heap.size+1,0,none⟩ (.bool (z==0))).drew:=
     ((hB.bel.setCell (p:=⟨w.heap.size,0,none⟩) (Nat.le_refl _) _).setCell (p:=⟨w.heap.size+1,0,none⟩) (Nat.le_succ _) _).drew
    have hM2:Marks w.heap.size ms ((W.setCell ⟨w.heap.size,0,none⟩ (.slice (some ⟨w.heap.size+2,0,none⟩) l.length l.length)).setCell ⟨w.heap.size+1,0,none⟩ (.bool (z==0))).drew:=
     have h:=(hM.set ⟨w.heap.size,0,none⟩ (.slice (some ⟨w.heap.size+2,0,none⟩) l.length l.length) hB.b0).set ⟨w.heap.size+1,0,none⟩ (.bool (z==0)) (hB.b1.other (by omega) _)
     ⟨h.nd,h.at_⟩
    refine JW (b:=w.heap.size) (λW'=>Boxed W' w.heap.size 54 (.slice (some ⟨w.heap.size+2,0,none⟩) l.length l.length)/\Boxed W' (w.heap.size+1) 4 (.bool (z==0))/\W'.heap[w.heap.size+2]? =some (.cells (DK l.length st) 3 (0,0))/\Below w.heap.size w W')
     (λW' d h hd=> ?_) ?_ ms _ ⟨k0,k1,k2,k3⟩ hM2
    ·obtain⟨h0,h1,h2,h3⟩:=h;have hg:=grownBy_putObj' W' d (.deferred none);refine⟨h0.kept hg (λe=>by cases e;omega),h1.kept hg (λe=>by cases e;omega), ?_,h3.grown hg h3.size (λk e=>by cases e;omega)⟩;rw[hg.block _ (Array.getElem?_eq_some_iff.1 h2).1 (λe=>by cases e;omega)];exact h2
    ·rintro W' ⟨h0,h1,h2,h3⟩;refine⟨_,agn (w:=w) rfl rfl h0 h1 ⟨_,_,_,rfl⟩,h3,_,_,rfl,.inr ⟨st, ?_,rfl,h2,by rw[hz]⟩⟩;rw[jY,if_pos (by simp;omega)];rw[List.take_length] at hs;exact hs
 ·have hb':(decide (1<=(l.length:Int)) && decide ((l.length:Int)<=400))=false:=by simpa using hb
  gi_wp2_with (refine⟨trivial, ?_⟩;gi_at_call 30;refine(Yb Fence.wide _ trivial rfl _ _ _ _).mono ?_;rintro e w' ⟨rfl,rfl⟩;rw[hb'])
  have g0:=(Boxed.new w 54 (.slice none 0 0)).alloc (.cells #[.bool false] 4);have g1:=Boxed.new (w.alloc (.cells #[.slice none 0 0] 54)) 4 (.bool false);simp only[World.size_alloc] at g1;refine⟨_,agn (w:=w) rfl rfl g0 g1 ⟨none,0,0,rfl⟩,((Below.refl _ w).alloc (Nat.le_refl _) _).alloc (by simp) _,_,_,rfl,.inl ⟨?_,rfl,rfl⟩⟩;rw[jY,if_neg];intro h;simp at hb h;omega
end Go.Proofs.YtcallmiaialhkaaGreatDoor
namespace Go.Proofs.YtcallmiaialhkaaGreatDoor
set_option linter.unusedVariables false
set_option linter.unusedSimpArgs false
set_option maxRecDepth 100000
open Go.Vm (dN gu jY)
open Go Go.Vm Go.Proofs Go.RowKit
def QF:ay->Option (List Int)
 |[]=>some []
 |r::rs=>match r with
  |[.int .i64 x]=>(QF rs).map (x:: ·)
  |_=>none
def acn:Row->Option Nk
 |[.int .i64 k,.int .i64 op,.str t,.str u,.sl _ 1 kids]=>(QF kids).bind λks=>if ks.length<=1048576 then some ⟨k,op,⟨⟨t⟩⟩,⟨⟨u⟩⟩,ks⟩ else none
 |_=>none
def Lr:ay->Option (List Nk)
 |[]=>some []
 |r::rs=>(acn r).bind λk=>(Lr rs).map (k:: ·)
def Jo(l:List Int):ay:=l.map λx=>[.int .i64 x]
def M.iy(rows:ay):Option (ay×Bool):=(Lr rows).bind λl=>if l.length<=1048576 then
 (match jY (l.map (·.kids)) with
  |none=>some ([],false)
  |some st=>some (Jo st,st[l.length - 1]?.getD 0==0)) else none
def Prim.iy(a:List V)(c:List Cell):Option (ay×List Cell):=match a,c with
 |[.d (.sl _ 5 rows)],[]=>(M.iy rows).map λr=>([[.sl true 1 r.1],[.bool r.2]],[])
 |_,_=>none
def aaL:∀(rs:ay) (l:List Int),QF rs=some l->rs=Jo l
 |[],l,h=>by simp only[QF,dG] at h;subst h;rfl
 |r::rs,l,h=>by
  unfold QF at h;split at h
  ·cases hd:QF rs with
   |none=>rw[hd] at h;cases h
   |some l'=>rw[hd] at h;cases h;rw[aaL rs l' hd];rfl
  ·cases h
def aaM{r:Row}{n:Nk}(h:acn r=some n):∃t u own,n.text=⟨⟨t⟩⟩/\n.other=⟨⟨u⟩⟩/\n.kids.length<=1048576/\r=[.int .i64 n.kind,.int .i64 n.op,.str t,.str u,.sl own 1 (Jo n.kids)]:=by
 unfold acn at h;split at h
 ·rename_i k op t u own' kids;cases hk:QF kids with
  |none=>rw[hk] at h;cases h
  |some ks=>
   rw[hk,aj] at h;split at h
   ·cases h;obtain rfl:=aaL kids ks hk;exact⟨t,u,own',rfl,rfl,by assumption,rfl⟩
   ·cases h
 ·cases h
def QG:∀(rs:ay) (l:List Nk),Lr rs=some l->rs.length=l.length/\∀(i:Nat) n,l[i]? =some n->∃r,rs[i]? =some r/\acn r=some n
 |[],l,h=>by simp only[Lr,dG] at h;subst h;exact⟨rfl,λi n hn=>by simp at hn⟩
 |r::rs,l,h=>by
  rw[Lr] at h;cases hd:acn r with
  |none=>rw[hd] at h;cases h
  |some k=>
   rw[hd,aj] at h;cases hds:Lr rs with
   |none=>rw[hds] at h;cases h
   |some l'=>
    rw[hds] at h;cases h;obtain⟨h1,h2⟩:=QG rs l' hds;refine⟨by simp[h1],λi n hn=> ?_⟩;cases i with
    |zero=>simp only[List.getElem?_cons_zero,dG] at hn;subst hn;exact⟨r,rfl,hd⟩
    |succ i=>simp only[List.getElem?_cons_succ] at hn|-;exact h2 i n hn
def AX{h:View}{s:Nat}:∀{rs:ay} {b o i:Nat} {r:Row},jC h s rs b o->rs[i]? =some r->r.length=s/\nN h r b (o+i * s)
 |[],b,o,i,r,q,hi=>by simp at hi
 |r'::rs,b,o,i,r,q,hi=>by
  simp only[jC] at q;cases i with
  |zero=>simp only[List.getElem?_cons_zero,dG] at hi;subst hi;simp only[Nat.zero_mul,Nat.add_zero];exact⟨q.1,q.2.1⟩
  |succ i=>simp only[List.getElem?_cons_succ] at hi;obtain⟨h1,h2⟩:=AX q.2.2 hi;refine⟨h1, ?_⟩;rw[show o+(i+1) * s=o+s+i * s by rw[Nat.succ_mul];omega];exact h2
def DZ{w:World}{U Y:Nat->Prop}{b o:Nat}{v:Value}(h:view w U Y b o=some v):w.cell? ⟨b,o,none⟩=some v/\b<w.heap.size:=by
 unfold view at h;split at h
 ·refine⟨h, ?_⟩;unfold World.cell? at h;cases ho:w.heap[b]? with
  |none=>simp[ho] at h
  |some o=>exact(Array.getElem?_eq_some_iff.1 ho).1
 ·cases h
def ah8{w:World}{U Y:Nat->Prop}{own:Bool}{ks:List Int}{v:Value}(h:ro (view w U Y) (.sl own 1 (Jo ks)) v):OB w.heap.size w v ks:=by
 simp only[ro] at h;obtain⟨a,cap,rfl,hc,hr⟩:=h;have hl:(Jo ks).length=ks.length:=by simp[Jo]
 refine⟨a,cap,by rw[hl],λhz=> ?_⟩;obtain⟨b,o,rfl,hrr⟩:=hr (by intro e;apply hz;simpa[Jo] using e);have get:∀j,j<ks.length->w.cell? ⟨b,o+j,none⟩=some (.int .i64 (ks[j]?.getD 0))/\b<w.heap.size:=by
  intro j hj;have e:(Jo ks)[j]? =some [D.int .i64 (ks[j]?.getD 0)]:=by simp[Jo,hj]
  obtain⟨_,h2⟩:=AX hrr e;simp only[nN,Nat.mul_one] at h2;obtain⟨⟨v,hv,hv2⟩,_⟩:=h2;simp only[ro] at hv2;subst hv2;exact DZ hv
 have hpos:0<ks.length:=by
  cases ks with
  |nil=>exact absurd rfl hz
  |cons _ _=>simp
 exact⟨b,o,rfl,(get 0 hpos).2,λj hj=>(get j hj).1⟩
def agp{w:World}{U Y:Nat->Prop}{own:Bool}{rows:ay}{l:List Nk}{v:Value}(hd:Lr rows=some l)(h:ro (view w U Y) (.sl own 5 rows) v):adw w.heap.size w v l:=by
 simp only[ro] at h;obtain⟨a,cap,rfl,hc,hr⟩:=h;obtain⟨hl,hg⟩:=QG rows l hd;refine⟨a,cap,by rw[hl],λhz=> ?_⟩;obtain⟨b,o,rfl,hrr⟩:=hr (by intro e;subst e;simp at hl;exact hz (List.length_eq_zero_iff.1 hl.symm));have get:∀i n,l[i]? =some n->agj w.heap.size w b (o+i * 5) n/\b<w.heap.size:=by intro i n hn;obtain⟨r,hri,hdk⟩:=hg i n hn;obtain⟨_,h2⟩:=AX hrr hri;obtain⟨t,u,own',e1,e2,_,rfl⟩:=aaM hdk;simp only[nN] at h2;obtain⟨⟨v0,h0,r0⟩,⟨v1,h1,r1⟩,⟨v2,h2,r2⟩,⟨v3,h3,r3⟩,⟨v4,h4,r4⟩,_⟩:=h2;simp only[ro] at r0 r1 r2 r3;subst r0 r1 r2 r3;exact⟨⟨v4,(DZ h0).1,(DZ h1).1,by rw[e1];exact(DZ h2).1,by rw[e2];exact(DZ h3).1,(DZ h4).1,ah8 r4⟩,(DZ h0).2⟩
 have hpos:∃n,l[0]? =some n:=by
  cases l with
  |nil=>exact absurd rfl hz
  |cons n _=>exact⟨n,rfl⟩
 obtain⟨n0,hn0⟩:=hpos;exact⟨b,o,rfl,(get 0 n0 hn0).2,λi n hn=>(get i n hn).1⟩
def aco{rows:ay}{l:List Nk}(hd:Lr rows=some l):∀n,n∈l->n.kids.length<=1048576:=by intro n hn;obtain⟨i,hi⟩:=List.mem_iff_getElem?.1 hn;obtain⟨r,_,hdk⟩:=(QG rows l hd).2 i n hi;obtain⟨_,_,_,_,_,h,_⟩:=aaM hdk;exact h
def FB{H:Heap}{h:View}:∀(st:List Int) (cs:List Value),cs=st.map (Value.int .i64)++cs.drop st.length->cO H h 1 (Jo st) cs []
 |[],cs,e=>rfl
 |x::st,cs,e=>by
  cases cs with
  |nil=>simp at e
  |cons c cs=>simp only[QY,WI,OL,List.drop_succ_cons,List.cons.injEq] at e;obtain⟨rfl,e⟩:=e;simp only[Jo,QY,cO];refine⟨rfl,[],[],rfl, ?_,FB st cs e⟩;simp only[dF];exact⟨_,_,[],[],rfl,rfl,⟨rfl,rfl⟩,rfl⟩
def WW{X:Ctx}(hP:X.P=Tryz.prog)(hm:vI X.Bf 88 0=0)(fn:Func)(args:List V)(cells:List Cell)(rows:ay)(outs:List Cell)(hf:X.P.funcs[88]? =some fn)(h:Prim.iy args cells=some (rows,outs))
  (base:Nat) (U:Nat->Prop) (w:World) (gargs eu:List Value) (N1 N2:List Nat) (hG:Given X base U w 88 args cells gargs eu N1 N2):
  Calls X.P 88 gargs.toArray w λe w'=>∃gs M1 M2,e=.returned (Lc gs)/\Did X.P U w w' (N1++N2) fn.resultTypes.toList cells outs eu rows gs M1 M2:=by
 unfold Prim.iy at h;split at h
 ·rename_i own rws;cases hs:M.iy rws with
  |none=>rw[hs] at h;cases h
  |some r=>
   rw[hs] at h;cases h;rw[hP] at hf;have hfn:fn.resultTypes.toList=[54,4]:=by rw[Tryz.func88] at hf;cases hf;rfl
   have ha:=hG.args;simp only[F8,hm] at ha;obtain⟨v0,gs',n1,n2,rfl,rfl,⟨rfl,hv0⟩,rfl,rfl⟩:=ha;have hc:=hG.cells;obtain⟨rfl,rfl⟩:=hc;simp only[aC] at hv0;unfold M.iy at hs;cases hd:Lr rws with
   |none=>rw[hd] at hs;cases hs
   |some l=>
    rw[hd,aj] at hs;split at hs
    ·rename_i hlen;have hN:=agp hd hv0;have hN':=hN;obtain⟨a,cap,rfl,_⟩:=hN';have hk:=aco hd;have hcall:=callsIn_wide.1 (aeF w a cap l au (λn hn=>by have:=hk n hn;omega) hN);rw[hP];refine hcall.mono ?_;rintro e w' ⟨hbel,g,bb,rfl,hres⟩;rw[hfn];have hkeep:Keep [] w w':=⟨hbel.os,hbel.tape,hbel.output,hbel.size,λb hb _=>hbel.block b hb⟩
     rcases hres with⟨hno,rfl,rfl⟩|⟨st,hst,rfl,hblk,rfl⟩
     ·rw[hno] at hs;cases hs;refine⟨[.slice none 0 0,.bool false],[],[],rfl,hkeep,by simp,λb hb=>by simp at hb,rfl,⟨rfl,rfl⟩, ?_⟩;simp only[Fj];refine⟨_,_,_,_,[],[],rfl,rfl,rfl,(sU (by kernel_rfl)).2 ⟨[.slice none 0 0], ?_, ?_,rfl⟩,_,_,_,_,[],[],rfl,rfl,rfl,(sU (by kernel_rfl)).2 ⟨[.bool false], ?_, ?_,rfl⟩,rfl,rfl,rfl⟩
      ·rw[Vm.valOf,if_neg (by intro e;revert e;rw[show xZ Tryz.prog 54=false by kernel_rfl];simp)]
      ·simp only[dF];exact⟨_,_,[],[],rfl,rfl,.inl ⟨rfl,rfl,rfl⟩,rfl⟩
      ·rw[Vm.valOf,if_neg (by intro e;revert e;rw[show xZ Tryz.prog 4=false by kernel_rfl];simp)]
      ·simp only[dF];exact⟨_,_,[],[],rfl,rfl,⟨rfl,rfl⟩,rfl⟩
     ·rw[hst] at hs;cases hs;have hsl:st.length=l.length:=by
       unfold jY at hst;split at hst
       ·have:=JV _ _ _ hst;simpa using this
       ·cases hst
      have hlt:w.heap.size+2<w'.heap.size:=(Array.getElem?_eq_some_iff.1 hblk).1;refine⟨[.slice (some ⟨w.heap.size+2,0,none⟩) l.length l.length,.bool (st[l.length - 1]?.getD 0==0)],[],[w.heap.size+2],rfl,hkeep,by simp,λb hb=> ?_,rfl,⟨rfl,rfl⟩, ?_⟩
      ·simp at hb;subst hb;exact⟨.inr au,hlt⟩
      ·simp only[Fj];refine⟨_,_,_,_,[w.heap.size+2],[],rfl,rfl,rfl,(sU (by kernel_rfl)).2 ⟨[.slice (some ⟨w.heap.size+2,0,none⟩) l.length l.length], ?_, ?_,rfl⟩,_,_,_,_,[],[],rfl,rfl,rfl,(sU (by kernel_rfl)).2 ⟨[.bool (st[l.length - 1]?.getD 0==0)], ?_, ?_,rfl⟩,rfl,rfl,rfl⟩
       ·rw[Vm.valOf,if_neg (by intro e;revert e;rw[show xZ Tryz.prog 54=false by kernel_rfl];simp)]
       ·simp only[dF];refine⟨_,_,[w.heap.size+2],[],rfl,rfl,.inr ⟨w.heap.size+2,l.length,DK l.length st,3,[], ?_,by simp[Jo,hsl],hblk, ?_, ?_,rfl⟩,rfl⟩
        ·simp[Jo,hsl]
        ·rw[OC au,Nat.mul_one]
        ·refine FB st _ ?_;have:l.length - st.length=0:=au;simp[DK,this]
       ·rw[Vm.valOf,if_neg (by intro e;revert e;rw[show xZ Tryz.prog 4=false by kernel_rfl];simp)]
       ·simp only[dF];exact⟨_,_,[],[],rfl,rfl,⟨rfl,rfl⟩,rfl⟩
    ·cases hs
 ·cases h
end Go.Proofs.YtcallmiaialhkaaGreatDoor
namespace Go.Proofs.YtcallmiaialhkaaGreatDoor
set_option linter.unusedVariables false
set_option linter.unusedSimpArgs false
open Go Go.Vm
def uQ:Row:=[.str [66,69,71,73,78],.str [69,78,68],.str [102,117,110,99,116,105,111,110],.str [105,102],.str [101,108,115,101],.str [119,104,105,108,101],.str [102,111,114],.str [100,111],.str [98,114,101,97,107],.str [99,111,110,116,105,110,117,101],.str [110,101,120,116],.str [101,120,105,116],.str [114,101,116,117,114,110],.str [100,101,108,101,116,101],.str [105,110],.str [112,114,105,110,116],.str [112,114,105,110,116,102]]
def Jp:Row:=[.str [123],.str [125],.str [40],.str [41],.str [91],.str [93],.str [44],.str [59],.str [43,61],.str [45,61],.str [42,61],.str [47,61],.str [37,61],.str [94,61],.str [124,124],.str [38,38],.str [33,126],.str [61,61],.str [60,61],.str [62,61],.str [33,61],.str [43,43],.str [45,45],.str [62,62],.str [61],.str [43],.str [45],.str [42],.str [47],.str [37],.str [94],.str [33],.str [62],.str [60],.str [124],.str [63],.str [58],.str [126],.str [36]]
def Bj:Row:=[.str [97,116,97,110,50],.str [99,108,111,115,101],.str [99,111,115],.str [101,120,112],.str [103,115,117,98],.str [105,110,100,101,120],.str [105,110,116],.str [108,101,110,103,116,104],.str [108,111,103],.str [109,97,116,99,104],.str [114,97,110,100],.str [115,105,110],.str [115,112,108,105,116],.str [115,112,114,105,110,116,102],.str [115,113,114,116],.str [115,114,97,110,100],.str [115,117,98],.str [115,117,98,115,116,114],.str [115,121,115,116,101,109],.str [116,111,108,111,119,101,114],.str [116,111,117,112,112,101,114]]
def M.strings_Contains(s t:aT):Option Bool:=match t with
 |[c]=>some (decide (0<=Lib.indexByte s c))
 |_=>none
def Prim.strings_Contains(a:List V)(c:List Cell):Option (ay×List Cell):=match a,c with
 |[.d (.str s),.d (.str t)],[]=>(M.strings_Contains s t).map λr=>([[.bool r]],[])
 |_,_=>none
def He:Row:=Lib.pow10Tab.map λz=>D.int .u64 z
def M.slices_Clone(rows:ay):Option (ay):=match QF rows with
 |some k=>(bif Nat.ble (k.length * 8) 140737488355328 then some (Go.Vm.encI k) else none)
 |none=>none
def Prim.slices_Clone(a:List V)(c:List Cell):Option (ay×List Cell):=match a,c with
 |[.d (.sl false 1 rows)],[]=>(M.slices_Clone rows).map λr=>([[.sl true 1 r]],[])
 |_,_=>none
def Ls(s:aT):aT:=match s with
 |45::t=>t
 |s=>s
def zT(s:aT):Option Int:=match Lib.atoiAll s with
 | .ok v=>bif Lib.itoa v==s && Nat.ble (Ls s).length 9 then some v else none
 |_=>none
def M.iK(s:aT):Option (Int×Bool):=bif Nat.ble s.length 1048576 then some (match zT s with|some v=>(v,true)|none=>(0,false)) else none
def Prim.iK(a:List V)(c:List Cell):Option (ay×List Cell):=match a,c with
 |[.d (.str s)],[]=>(M.iK s).map λr=>([[.int .i64 r.1],[.bool r.2]],[])
 |_,_=>none
end Go.Proofs.YtcallmiaialhkaaGreatDoor
