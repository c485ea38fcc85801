import Derived.Test.YtcallmiaialhkaaGreatDoorVm1
import Derived.Laws.Append
import Derived.Laws.AppendOwn
import Derived.Laws.CopyRow
import Derived.Laws.Slices
import Derived.Laws.MakeOwn
import Derived.Laws.BytesString
import Derived.Great.BuildSlice
set_option linter.defProp false
set_option linter.unusedVariables false
set_option linter.unusedSimpArgs false
namespace Go.Vm
open Go
section
variable {base:Nat} {U:Nat->Prop} {w w':World} {m:Mem} {G:GS}
def drop_cons{α:Type}{l:List α}{i:Nat}{a:α}{r:List α}(h:l.drop i=a::r):l[i]? =some a/\l.drop (i+1)=r:=by
 refine⟨?_,by rw[<-List.drop_drop,h];rfl⟩;have:(l.drop i)[0]? =some a:=by rw[h];rfl
 rwa [List.getElem?_drop,Nat.add_zero] at this
def alT(xs:List D):(xs.map V.d).map vD=xs:=by
 induction xs with
 |nil=>rfl
 |cons x xs ih=>simp[vD,ih]
def Uu{m m':Mem}(h:∀k c,get k m=some c->get k m'=some c):∀{rs:List Nat} {cs:List Cell},kinds m rs cs->kinds m' rs cs
 |[],_,q=>q
 |r::rs,_,⟨c,c',cs',h1,h2,h3,h4⟩=>⟨c,c',cs',h1,h r c h2,h3,Uu h h4⟩
def Qo{m:Mem}{r:Nat}{c0:Cell}:∀{rs:List Nat} {cs:List Cell},r ∉ rs->kinds m rs cs->kinds (put r c0 m) rs cs
 |[],_,_,q=>q
 |k::rs,_,hr,⟨c,c',cs',h1,h2,h3,h4⟩=>by simp only[List.mem_cons,not_or] at hr;exact⟨c,c',cs',h1,by rw[eU (Ne.symm hr.1)];exact h2,h3,Qo hr.2 h4⟩
structure Came(base:Nat)(U:Nat->Prop)(w:World)(m:Mem)(G:GS)(m':Mem)(G':GS)(E:List Nat):Prop where
 ok:uN base U w m' G'
 le:KE m G m' G'
 E:G'.E=E
 out:G'.out=[]
def Bg{H:Heap}{h h':View}(hl:h.le h'){cs:List Cell}{gs:List Value}{N:List Nat}(q:cellsB H h cs gs N):cellsB H h' cs gs N:=Rf hl (λ_ _=>rfl) q
def Pn{X:Ctx}{dst:Nat}{outs:List Cell}:∀{rs:List Nat} {i:Nat} {m:Mem} {G:GS} {N E:List Nat} (_:uN base U w m G) (_:rs.Nodup) (_:G.out=rs) (_:kinds m rs (outs.drop i))
  (_:(N++E).Perm G.E) (_:cellsB (aX w) (Gh U w G) (outs.drop i) (rs.map G.μ) N) {x:Unit} {m':Mem} {l l':Log} (_:(QZ X dst outs i rs).run m l=some (x,m',l')),
  ∃G',Came base U w m G m' G' E
 |[],i,m,G,N,E,hg,hn,ho,hk,hE,hq,x,m',l,l',h=>by simp only[QZ,run_pure,dG,eH] at h;obtain⟨_,rfl,rfl⟩:=h;obtain⟨d1,d2,_⟩:=hg.Uo hE;exact⟨_,d1,d2,rfl,ho⟩
 |r::rs,i,m,G,N,E,hg,hn,ho,hk,hE,hq,x,m',l,l',h=>by
  obtain⟨c,c',cs',e1,hc,hsk,hk'⟩:=hk;have hnr:=List.nodup_cons.1 hn;obtain⟨hi,hdrop⟩:=drop_cons e1;rw[e1] at hq;obtain⟨g,gs',N1,N2,eg,rfl,q1,q2⟩:=hq;simp only[QY,List.cons.injEq] at eg;obtain⟨rfl,rfl⟩:=eg;have hout:∀k,k∈G.out->∃c,get k m=some c:=by
   intro k hkm;rw[ho] at hkm;simp only[List.mem_cons] at hkm;rcases hkm with rfl|hkm
   ·exact⟨c,hc⟩
   ·obtain⟨j,hj⟩:=List.getElem?_of_mem hkm;obtain⟨c2,_,h2,_⟩:=Ph hk' hj;exact⟨c2,h2⟩
  simp only[QZ] at h;replace h:=ah h;obtain⟨c0,m1,l1,h1,h⟩:=h;rw[jV] at h1;cases h1;rw[hc] at h;cases c with
  |dead=>exact hsk.elim
  |xk _ _ _=>exact hsk.elim
  |jM _ _=>exact hsk.elim
  |jB _ _ _ _ _=>exact hsk.elim
  |box t cs=>
   cases c' with
   |dead=>exact hsk.elim
   |xk _ _ _=>exact hsk.elim
   |jM _ _=>exact hsk.elim
   |jB _ _ _ _ _=>exact hsk.elim
   |arr _ _ _ _ _=>exact hsk.elim
   |box t' vs=>
    obtain rfl:t=t':=hsk;obtain⟨b,a,xs,N',hμ,hH,hvs,hxl,hrow,rfl⟩:=q1;simp only at h;replace h:=ah h;obtain⟨_,m2,l2,h2,h⟩:=h;obtain⟨hbl,rfl,rfl⟩:=bG h2;replace h:=ah h;obtain⟨vs',m3,l3,h3,h⟩:=h;replace h:=ah h;obtain⟨_,m4,l4,h4,h⟩:=h;rw[nS] at h4;cases h4;have hbx:afd outs i=xs:=by simp only[afd,hi,hvs];exact alT xs
    have hbl:xs.length=(BG X.P t).length:=by simp only[afg,hi] at hbl;have:=lq hbl;rw[hvs,List.length_map] at this;exact this
    rw[hbx] at h3;obtain⟨G1,t1,s1⟩:=Ur hg hout (N:=N') (E:=b::(N2++E)) (List.Perm.trans (by have:(N'++b::(N2++E)).Perm (b::(N'++(N2++E))):=List.perm_middle;refine this.trans ?_;simp[BD]) hE) (by simpa using hrow) (by simpa using hbl) (by rw[<-hxl];exact hbl) h3;have hc1:=t1.old r _ hc;have ahB:=t1.ok.Ug;rw[t1.E] at ahB;have hset:=t1.ok.set r (.box t vs') G1.μ [b] (N2++E) rs (by simpa using ahB) (λk hk=> .inr (by rw[t1.E];simpa using hk))
     (qg (λ_ _=>rfl) (λc h=>by rw[hc1] at h;cases h;exact⟨rfl,rfl⟩)) (λ_ _=>rfl)
     (λk hne=>by rw[t1.out,ho];simp[hne]) (λhr=>absurd hr hnr.1)
     (λhv _=>⟨b,a,by rw[t1.μ r _ hc];exact hμ,hH,kR (qg (λ_ _=>rfl) (λc h=>by rw[hc1] at h;cases h;exact⟨rfl,rfl⟩)) hv _ _ s1,rfl⟩)
    obtain⟨k1,k2⟩:=hset;obtain⟨G2,f1,f2,f3,f4⟩:=Pn k1 hnr.2 rfl (Qo hnr.1 (Uu t1.old (by rw[hdrop];exact hk'))) (N:=N2) (E:=E) (List.Perm.refl _)
     (by
      rw[hdrop];have hmap:rs.map G1.μ=rs.map G.μ:=List.map_congr_left λk hk=>by obtain⟨c2,h2⟩:=hout k (by rw[ho];simp[hk]);exact t1.μ k c2 h2
      simp only[hmap];exact Bg (t1.le.view.trans' k2.view) q2) h
    exact⟨G2,f1,(t1.le.trans k2).trans f2,f3,f4⟩
  |arr fz fl ver s rows=>
   cases c' with
   |dead=>exact hsk.elim
   |xk _ _ _=>exact hsk.elim
   |jM _ _=>exact hsk.elim
   |jB _ _ _ _ _=>exact hsk.elim
   |box _ _=>exact hsk.elim
   |arr fz' fl' dP s' rows'=>
    obtain⟨rfl,rfl,rfl,rfl⟩:=hsk;obtain⟨rfl,_,hrow⟩:=q1;simp only at h;replace h:=ah h;obtain⟨ac7,m2,l2,h2,h⟩:=h;obtain⟨har,rfl,rfl⟩:=dn h2;replace h:=ah h;obtain⟨_,m4,l4,h4,h⟩:=h;rw[nS] at h4;cases h4;have hrr:ac7=rows':=by simp[afe,hi] at har;exact har.symm
    subst hrr;have ahB:=hE.nodup_iff.2 hg.Ug;have hset:=hg.set r (.arr false fl 0 s ac7) G.μ N1 (N2++E) rs (by rwa [BD] at ahB) (λk hk=> .inr (hE.mem_iff.1 (by rw[BD];exact hk)))
     (qg (λ_ _=>rfl) (λc h=>by rw[hc] at h;cases h;exact⟨Nat.le_refl _,rfl,λ_=>⟨rfl,rfl⟩⟩)) (λ_ _=>rfl)
     (λk hne=>by rw[ho];simp[hne]) (λhr=>absurd hr hnr.1)
     (λhv _=>yT hv (λ_ _=>rfl) hrow)
    obtain⟨k1,k2⟩:=hset;obtain⟨G2,f1,f2,f3,f4⟩:=Pn k1 hnr.2 rfl (Qo hnr.1 (by rw[hdrop];exact hk')) (N:=N2) (E:=E) (List.Perm.refl _)
     (by rw[hdrop];exact Bg k2.view q2) h
    exact⟨G2,f1,k2.trans f2,f3,f4⟩
def afq{h:View}(s:List UInt8):∀(cs:List Value),cs=s.map (λb=>Value.int .u8 b.toNat)->dD h 1 (s.map byteRow) cs:=by
 induction s with
 |nil=>intro cs _;simp[dD]
 |cons b s ih=>intro cs e;subst e;simp only[QY,dD,byteRow];exact⟨rfl,by simp[dY,ro],ih _ rfl⟩
end
end Go.Vm
namespace Go.Vm
open Go
def BN(b o j:Nat):(⟨b,o,none⟩:Addr).add j=⟨b,o+j,none⟩:=by
 unfold Addr.add;split
 ·rename_i h;subst h;rfl
 ·rfl
def qx{P:Program}{t:TypeId}(h:KF P t=true):∃d,P.underlying t=some d:=by
 unfold KF at h;cases hu:P.underlying t with
 |none=>simp[hu] at h
 |some d=>exact⟨d,rfl⟩
def nO{P:Program}{t:TypeId}{d:TypeDesc}(h:P.underlying t=some d):∃i,P.info? t=some i:=by
 unfold Program.underlying at h;cases hi:P.info? t with
 |none=>simp[hi] at h
 |some i=>exact⟨i,rfl⟩
def wZ{P:Program}{t:TypeId}{i:TypeInfo}(h:P.info? t=some i):iM P t=i.size:=by simp[iM,h]
section
variable {P:Program} {w:World}
def Ja{t:TypeId}{d:TypeDesc}(h:P.underlying t=some d)(w:World):(isAgg t).run P w=.ok (xZ P t) w:=by unfold isAgg xZ;rw[Sem.run_bind,run_underlying h w,h];cases d<;>rfl
def yh{t:TypeId}{b off:Nat}{cs:List Value}{g:Value}(hok:KF P t=true)(hlen:cs.length=iM P t)(hc:∀j v,cs[j]? =some v->w.cell? ⟨b,off+j,none⟩=some v)(hg:valOf P t cs g):
  (Instr.loadAt t (.pointer (some ⟨b,off,none⟩))).run P w=.ok g w:=by
 obtain⟨d,hd⟩:=qx hok;obtain⟨i,hi⟩:=nO hd;have hsz:i.size=cs.length:=by rw[hlen,wZ hi]
 unfold Instr.loadAt Instr.sureAddr;simp only[Sem.run_bind,Sem.run_pure,Result.andThen_ok,loadVar,Ja hd];unfold valOf at hg;cases ha:xZ P t with
 |true=>simp only[ha,if_true] at hg;subst hg;have hl:=run_loadCells_list (P:=P) w ⟨b,off,none⟩ cs (λj v hv=>by rw[BN];exact hc j v hv);simp[sizeOf,typeInfo,hi,hsz,hl]
 |false=>simp only[ha,Bool.false_eq_true,if_false] at hg;subst hg;have:=hc 0 g rfl;simp only[Nat.add_zero] at this;simp[this]
def KU{t T:TypeId}{b off:Nat}{cur:Array Value}{g:Value}(hok:KF P t=true)(hH:w.heap[b]? =some (.cells cur T (0,0)))(hlen:g.cells.size=iM P t)(hfit:off+g.cells.size<=cur.size)(h1:∀v∈g.cells.toList,v.oneCell'=true):
  (Instr.storeAt t (.pointer (some ⟨b,off,none⟩)) g).run P w=.ok () (w.setRow b (splice cur.toList off g.cells.toList).toArray):=by
 obtain⟨d,hd⟩:=qx hok;obtain⟨i,hi⟩:=nO hd;have hsz:g.cells.size=i.size:=by rw[hlen,wZ hi]
 have hst:=run_storeCells_at P b off T g.cells.toList 0 cur w hH (by simpa using hfit) h1;simp only[Nat.add_zero] at hst;unfold Instr.storeAt Instr.sureAddr;simp only[Sem.run_bind,Sem.run_pure,Result.andThen_ok,storeVar,sizeOf,typeInfo,run_program,hi];simp[hsz,hst,splice]
def KW{T:TypeId}{f b off o n:Nat}{t:TypeId}(hf:JA P T f=some (o,n,t))(hn:1<=n):
  (Instr.fieldAt T (.pointer (some ⟨b,off,none⟩)) f).run P w=.ok (.pointer (some ⟨b,off+o,none⟩)) w:=by
 unfold JA at hf;cases hu:P.underlying T with
 |none=>simp[hu] at hf
 |some d=>
  rw[hu] at hf;cases d with
  |struct fs=>
   simp only at hf;cases hfd:fs[f]? with
   |none=>simp[hfd] at hf
   |some fd=>
    simp only[hfd,dG,eH] at hf;obtain⟨rfl,rfl,rfl⟩:=hf;cases hi:P.info? fd.type with
    |none=>simp[iM,hi] at hn
    |some i=>
     have hne:i.size≠0:=by rw[wZ hi] at hn;omega
     unfold Instr.fieldAt;simp[run_underlying hu,hfd,Instr.sureAddr,fieldPlace,sizeOf,typeInfo,hi,hne,BN]
  |_=>simp at hf
def Fp{t e:TypeId}(h:elT P t=some e):P.underlying t=some (.slice e):=by
 unfold elT at h;cases hu:P.underlying t with
 |none=>simp[hu] at h
 |some d=>rw[hu] at h;cases d<;>simp at h;rw[h]
def run_indexAt{t e:TypeId}{k:IntKind}{i:Int}{b o n cap:Nat}(he:elT P t=some e){inf:TypeInfo}(hi:P.info? e=some inf)(h0:0<=i)(hn:i<n):
  (Instr.indexAt t (.slice (some ⟨b,o,none⟩) n cap) (.int k i)).run P w=.ok (.pointer (some ⟨b,o+i.toNat * inf.size,none⟩)) w:=by
 have hu:=Fp he;have hc:0<=i/\i<(n:Int):=⟨h0,hn⟩
 unfold Instr.indexAt;simp[asIntOf,run_underlying hu,hc,sizeOf,typeInfo,hi,BN]
structure Src(P:Program)(size:Nat)(w:World)(y:Value)(m:Nat)(news:List Value):Prop where
 len:(Builtin.lenOf y).run P w=.ok m w
 get:(Builtin.firstCells size m y).run P w=.ok news.toArray w
 lend:(Builtin.lenOf y).run P w.drew=.ok m w.drew
 alU:(Builtin.firstCells size m y).run P w.drew=.ok news.toArray w.drew
 n:news.length=m * size
 one:∀u∈news,u.oneCell'=true
def Src.slice{size:Nat}{a:Option Addr}{m c:Nat}{news:List Value}(hl:news.length=m * size)(h1:∀u∈news,u.oneCell'=true)
  (h:m≠0->∃b o,a=some ⟨b,o,none⟩/\∀j v,news[j]? =some v->w.cell? ⟨b,o+j,none⟩=some v):Src P size w (.slice a m c) m news:=by
 have key:∀w':World,(∀x,w'.cell? x=w.cell? x)->(Builtin.firstCells size m (.slice a m c)).run P w'=.ok news.toArray w':=by
  intro w' hw
  by_cases hm:m=0
  ·subst hm;have:news=[]:=List.eq_nil_of_length_eq_zero (by simpa using hl);subst this;cases a with
   |none=>simp[Builtin.firstCells]
   |some a=>simp[Builtin.firstCells,loadCells,loadCellsFrom]
  ·obtain⟨b,o,rfl,hc⟩:=h hm;exact run_firstCells_some (P:=P) w' size m ⟨b,o,none⟩ m c news hl (λj v hv=>by rw[BN,hw];exact hc j v hv)
 exact⟨by simp[Builtin.lenOf],key w (λ_=>rfl),by simp[Builtin.lenOf],key w.drew (λx=>rfl),hl,h1⟩
def Src.string{s:List UInt8}:Src P 1 w (.string ⟨⟨s⟩⟩) s.length (s.map λb=>Value.int .u8 b.toNat):=by
 have hsz:(⟨⟨s⟩⟩:ByteArray).size=s.length:=rfl;have hex:((⟨⟨s⟩⟩:ByteArray).extract 0 s.length)=⟨⟨s⟩⟩:=by rw[<-hsz];apply ByteArray.ext;simp[ByteArray.data_extract]
 have hm:(Array.map (λb:UInt8=>Value.int .u8 (b.toNat:Int)) ⟨s⟩)=(s.map λb=>Value.int .u8 (b.toNat:Int)).toArray:=by apply Array.ext';simp
 refine⟨by simp[Builtin.lenOf,hsz],by simp[Builtin.firstCells,hex,hm],by simp[Builtin.lenOf,hsz],by simp[Builtin.firstCells,hex,hm],by simp, ?_⟩;intro u hu;simp only[List.mem_map] at hu;obtain⟨b,_,rfl⟩:=hu;rfl
def FP{t ty y e:TypeId}{inf:TypeInfo}{z gy:Value}{m:Nat}{news:List Value}(he:P.underlying t=some (.slice e))(hty:(∃e',P.underlying y=some (.slice e'))\/P.underlying y=some .string)
  (hi:P.info? e=some inf) (hz:inf.zero=some z) (hs:Src P inf.size w gy m news) (hm:m≠0) (h63:m<=140737488355328) (hb:m * inf.bytes<=140737488355328):
  ∃cap,m<=cap/\(Builtin.append_ #[t,y] ty #[.slice none 0 0,gy]).run P w=.ok (.slice (some ⟨w.heap.size,0,none⟩) m cap) (w.drew.alloc (.cells (news.toArray++Builtin.zeroCells z.cells (cap - m)) e)):=by
 have h63':¬(9223372036854775807<(m:Int)):=au;have h48':¬(281474976710656<Builtin.nextslicecap m 0 * inf.bytes):=by rw[nextslicecap_zero au];omega
 refine⟨grownCap w m 0 e,grownCap_ge w m 0 e, ?_⟩;rcases hty with⟨e',hd⟩|hd<;>simp[Builtin.append_,run_underlying he,run_underlying hd,sizeOf,typeInfo,zeroValue,hi,hz,hs.len,hm,h63',h48',Question.forced,run_firstCells_none,hs.alU,newRow,grownCap]
def FQ{t ty y e:TypeId}{inf:TypeInfo}{gy:Value}{news:List Value}(he:P.underlying t=some (.slice e))(hty:(∃e',P.underlying y=some (.slice e'))\/P.underlying y=some .string)
  (hi:P.info? e=some inf) (hs:Src P inf.size w gy 0 news):
  (Builtin.append_ #[t,y] ty #[.slice none 0 0,gy]).run P w=.ok (.slice none 0 0) w:=by
 rcases hty with⟨e',hd⟩|hd<;>simp[Builtin.append_,run_underlying he,run_underlying hd,sizeOf,typeInfo,hi,hs.len,hs.get]
def run_append_fits{t ty y e T:TypeId}{inf:TypeInfo}{gy:Value}{b n m cap:Nat}{cur:Array Value}{news:List Value}(he:P.underlying t=some (.slice e))(hty:(∃e',P.underlying y=some (.slice e'))\/P.underlying y=some .string)
  (hi:P.info? e=some inf) (hs:Src P inf.size w gy m news) (hH:w.heap[b]? =some (.cells cur T (0,0))) (hroom:n+m<=cap) (hc:cur.size=cap * inf.size):
  (Builtin.append_ #[t,y] ty #[.slice (some ⟨b,0,none⟩) n cap,gy]).run P w=.ok (.slice (some ⟨b,0,none⟩) (n+m) cap) (w.setRow b (splice cur.toList (n * inf.size) news).toArray):=by
 have hfit:n * inf.size+0+news.length<=cur.size:=by rw[hs.n,hc,Nat.add_zero,<-Nat.add_mul];exact Nat.mul_le_mul_right _ hroom
 have hst:=run_storeCells_at P b (n * inf.size) T news 0 cur w hH hfit hs.one;simp only[Nat.add_zero] at hst;rcases hty with⟨e',hd⟩|hd<;>simp[Builtin.append_,run_underlying he,run_underlying hd,sizeOf,typeInfo,hi,hs.len,hroom,hs.get,BN,hst,splice]
def SG{t ty y e:TypeId}{inf:TypeInfo}{z gy:Value}{b n m cap:Nat}{olds news:List Value}(he:P.underlying t=some (.slice e))(hty:(∃e',P.underlying y=some (.slice e'))\/P.underlying y=some .string)
  (hi:P.info? e=some inf) (hz:inf.zero=some z) (hs:Src P inf.size w gy m news) (hl:olds.length=n * inf.size) (ho:∀j v,olds[j]? =some v->w.cell? ⟨b,0+j,none⟩=some v) (hroom:cap<n+m) (h63:n+m<=140737488355328) (hb:(n+m) * inf.bytes<=140737488355328):
  ∃cap',n+m<=cap'/\(Builtin.append_ #[t,y] ty #[.slice (some ⟨b,0,none⟩) n cap,gy]).run P w=.ok (.slice (some ⟨w.heap.size,0,none⟩) (n+m) cap') (w.drew.alloc (.cells ((olds++news).toArray++Builtin.zeroCells z.cells (cap' - (n+m))) e)):=by
 have hn:¬(n+m<=cap):=au;have h63':¬(9223372036854775807<((n:Int)+(m:Int))):=au;have h48':¬(281474976710656<Builtin.nextslicecap (n+m) cap * inf.bytes):=by have:=growslice_fits hroom hb;omega
 have hfo:=run_firstCells_some (P:=P) w.drew inf.size n ⟨b,0,none⟩ n cap olds hl (λj v hv=>by rw[BN];exact ho j v hv);refine⟨grownCap w (n+m) cap e,grownCap_ge w (n+m) cap e, ?_⟩;rcases hty with⟨e',hd⟩|hd<;>simp[Builtin.append_,run_underlying he,run_underlying hd,sizeOf,typeInfo,zeroValue,hi,hz,hs.len,hn,h63',h48',Question.forced,hfo,hs.alU,newRow,grownCap]<;>
  (congr 2;apply Array.ext';simp[BD])
def Oa{t ty y e T:TypeId}{inf:TypeInfo}{gy:Value}{b o n m cap:Nat}{cur:Array Value}{news:List Value}(he:P.underlying t=some (.slice e))(hty:(∃e',P.underlying y=some (.slice e'))\/P.underlying y=some .string)
  (hi:P.info? e=some inf) (hs:Src P inf.size w gy m news) (hH:w.heap[b]? =some (.cells cur T (0,0))) (hroom:n+m<=cap) (hc:o+cap * inf.size<=cur.size):
  (Builtin.append_ #[t,y] ty #[.slice (some ⟨b,o,none⟩) n cap,gy]).run P w=.ok (.slice (some ⟨b,o,none⟩) (n+m) cap) (w.setRow b (splice cur.toList (o+n * inf.size) news).toArray):=by
 have hfit:(o+n * inf.size)+0+news.length<=cur.size:=by have:=Nat.mul_le_mul_right inf.size hroom;rw[Nat.add_mul] at this;rw[hs.n];omega
 have hst:=run_storeCells_at P b (o+n * inf.size) T news 0 cur w hH hfit hs.one;simp only[Nat.add_zero] at hst;rcases hty with⟨e',hd⟩|hd<;>simp[Builtin.append_,run_underlying he,run_underlying hd,sizeOf,typeInfo,hi,hs.len,hroom,hs.get,BN,hst,splice]
def Ob{t ty y e:TypeId}{inf:TypeInfo}{z gy:Value}{b o n m cap:Nat}{olds news:List Value}(he:P.underlying t=some (.slice e))(hty:(∃e',P.underlying y=some (.slice e'))\/P.underlying y=some .string)
  (hi:P.info? e=some inf) (hz:inf.zero=some z) (hs:Src P inf.size w gy m news) (hl:olds.length=n * inf.size) (ho:∀j v,olds[j]? =some v->w.cell? ⟨b,o+j,none⟩=some v) (hroom:cap<n+m) (h63:n+m<=140737488355328) (hb:(n+m) * inf.bytes<=140737488355328):
  ∃cap',n+m<=cap'/\(Builtin.append_ #[t,y] ty #[.slice (some ⟨b,o,none⟩) n cap,gy]).run P w=.ok (.slice (some ⟨w.heap.size,0,none⟩) (n+m) cap') (w.drew.alloc (.cells ((olds++news).toArray++Builtin.zeroCells z.cells (cap' - (n+m))) e)):=by
 have hn:¬(n+m<=cap):=au;have h63':¬(9223372036854775807<((n:Int)+(m:Int))):=au;have h48':¬(281474976710656<Builtin.nextslicecap (n+m) cap * inf.bytes):=by have:=growslice_fits hroom hb;omega
 have hfo:=run_firstCells_some (P:=P) w.drew inf.size n ⟨b,o,none⟩ n cap olds hl (λj v hv=>by rw[BN];exact ho j v hv);refine⟨grownCap w (n+m) cap e,grownCap_ge w (n+m) cap e, ?_⟩;rcases hty with⟨e',hd⟩|hd<;>simp[Builtin.append_,run_underlying he,run_underlying hd,sizeOf,typeInfo,zeroValue,hi,hz,hs.len,hn,h63',h48',Question.forced,hfo,hs.alU,newRow,grownCap]<;>
  (congr 2;apply Array.ext';simp[BD])
end
end Go.Vm
namespace Go.Vm
open Go
structure Fr(M0:List Nat)(w0 w:World)(G:GS):Prop where
 keep:Keep M0 w0 w
 fr:∀b,excl G.F G.E b->b∈M0\/w0.heap.size<=b
structure Nx(base:Nat)(U:Nat->Prop)(M0:List Nat)(w0 w:World)(m:Mem)(G:GS)(w':World)(m':Mem)(G':GS):Prop where
 ok:uN base U w' m' G'
 E:G'.E=[]
 out:G'.out=[]
 mem:sF G.μ m G'.μ m'
 view:(Gh U w G).le (Gh U w' G')
 fr:Fr M0 w0 w' G'
structure At(base:Nat)(U:Nat->Prop)(M0:List Nat)(w0 w:World)(m:Mem)(G:GS):Prop where
 ok:uN base U w m G
 E:G.E=[]
 out:G.out=[]
 fr:Fr M0 w0 w G
def zO{P:Program}{o:Oper}{a:Act}{w w':World}{K:Act->World->Prop}{Q:Exit->Act->World->Prop}{g:Value}(h:(execOp a.eval o).run P w=.ok (.value g) w')(hn:K (a.put o.dst g) w'):o.wp P a w K Q:=by unfold Oper.wp;rw[h];exact hn
def wp_skip{P:Program}{o:Oper}{a:Act}{w w':World}{K:Act->World->Prop}{Q:Exit->Act->World->Prop}(h:(execOp a.eval o).run P w=.ok .skip w')(hn:K (a.put o.dst undef) w'):o.wp P a w K Q:=by unfold Oper.wp;rw[h];exact hn
section
variable {base:Nat} {U:Nat->Prop} {M0:List Nat} {w0 w w':World} {m m':Mem} {G G':GS} {P:Program}
def At.nx(h:At base U M0 w0 w m G):Nx base U M0 w0 w m G w m G:=⟨h.ok,h.E,h.out,kQ _ _,View.le_refl _,h.fr⟩
def Nx.at_(h:Nx base U M0 w0 w m G w' m' G'):At base U M0 w0 w' m' G':=⟨h.ok,h.E,h.out,h.fr⟩
def Nx.trans{w2:World}{m2:Mem}{G2:GS}(h:Nx base U M0 w0 w m G w' m' G')(k:Nx base U M0 w0 w' m' G' w2 m2 G2):Nx base U M0 w0 w m G w2 m2 G2:=
 ⟨k.ok,k.E,k.out,mZ h.mem k.mem,h.view.trans' k.view,k.fr⟩
def Nx.aC(h:Nx base U M0 w0 w m G w' m' G'){v:V}{g:Value}(q:aC G.μ m (Gh U w G) v g):aC G'.μ m' (Gh U w' G') v g:=pY h.mem h.view v g q
def Nx.bD(h:Nx base U M0 w0 w m G w' m' G'){v:List V}{g:List Value}(q:bD G.μ m (Gh U w G) v g):bD G'.μ m' (Gh U w' G') v g:=kR h.mem h.view v g q
def Fr.less(h:Fr M0 w0 w G)(hx:∀b,excl G'.F G'.E b->excl G.F G.E b):Fr M0 w0 w G':=⟨h.keep,λb hb=>h.fr b (hx b hb)⟩
def At.still(h:At base U M0 w0 w m G)(hg:uN base U w m' G')(hl:KE m G m' G')(ho:G'.out=[]):
  Nx base U M0 w0 w m G w m' {G' with E:=[]}:=by
 obtain⟨k1,k2⟩:=hg.less [] (by simp) (by simp);have:=hl.trans k2;exact⟨k1,rfl,ho,this.mem,this.view,h.fr.less this.ex⟩
def BO{μ:Nat->Value}{h:View}:∀{a b:List V} {g k:List Value},bD μ m h a g->bD μ m h b k->bD μ m h (a++b) (g++k)
 |[],b,g,k,ha,hb=>by simp only[bD] at ha;subst ha;simpa using hb
 |v::a,b,g,k,ha,hb=>by obtain⟨g0,g',rfl,h1,h2⟩:=jl ha;simp only[WI,bD];exact⟨g0,g'++k,rfl,h1,BO h2 hb⟩
def Oc{μ:Nat->Value}{h:View}:∀{a:List V} {g:List Value} (n:Nat),bD μ m h a g->bD μ m h (a.drop n) (g.drop n)
 |a,g,0,ha=>by simpa using ha
 |[],g,n+1,ha=>by simp only[bD] at ha;subst ha;simp[bD]
 |v::a,g,n+1,ha=>by obtain⟨g0,g',rfl,h1,h2⟩:=jl ha;simpa using Oc n h2
def Oe{μ:Nat->Value}{h:View}:∀{a:List V} {g:List Value} (n:Nat),bD μ m h a g->bD μ m h (a.take n) (g.take n)
 |a,g,0,ha=>by simp[bD]
 |[],g,n+1,ha=>by simp only[bD] at ha;subst ha;simp[bD]
 |v::a,g,n+1,ha=>by obtain⟨g0,g',rfl,h1,h2⟩:=jl ha;simp only[List.take_succ_cons,bD];exact⟨g0,g'.take n,rfl,h1,Oe n h2⟩
def Uw{μ:Nat->Value}{h:View}{a:List V}{g:List Value}(o n:Nat)(q:bD μ m h a g):bD μ m h (part a o n) ((g.drop o).take n):=Oe n (Oc o q)
def JG{μ:Nat->Value}{h:View}{a b:List V}{g k:List Value}(o:Nat)(q:bD μ m h a g)(q':bD μ m h b k):bD μ m h (splice a o b) (splice g o k):=by have hl:k.length=b.length:=eP q';unfold splice;rw[hl];exact BO (BO (Oe o q) q') (Oc _ q)
def LZ{μ:Nat->Value}{h:View}:∀{a:List V} {g:List Value} {i:Nat} {v:V},bD μ m h a g->a[i]? =some v->∃x,g[i]? =some x/\aC μ m h v x
 |[],g,i,v,ha,hi=>by simp at hi
 |v0::a,g,i,v,ha,hi=>by
  obtain⟨g0,g',rfl,h1,h2⟩:=jl ha;cases i with
  |zero=>simp at hi;subst hi;exact⟨g0,rfl,h1⟩
  |succ i=>simpa using LZ h2 (by simpa using hi)
def Xv{t:TypeId}{vs:List V}{v:V}(h:Ac P t vs=some v){μ:Nat->Value}{hh:View}{cs:List Value}(hq:bD μ m hh vs cs):∃g,valOf P t cs g:=by
 unfold Ac at h;unfold valOf;cases ha:xZ P t with
 |true=>exact⟨_,by simp;rfl⟩
 |false=>
  simp only[ha,dX] at h;split at h
  ·obtain⟨g',gs',e,q1,q2⟩:=jl hq;simp only[bD] at q2;subst q2;exact⟨g',by simpa using e⟩
  ·cases h
def IC{h:View}{x:D}{g:Value}(q:ro h x g):g.oneCell'=true:=by
 cases x with
 |sl o s rows=>simp only[ro] at q;obtain⟨a,cap,rfl,_⟩:=q;rfl
 |_=>simp only[ro] at q;subst q;rfl
def YO{row:Row}{j:Nat}{x:D}(h:nth row j=x)(hx:x≠.GL):row[j]? =some x:=by
 unfold nth at h;cases hr:row[j]? with
 |none=>rw[hr] at h;exact absurd h.symm hx
 |some y=>rw[hr] at h;exact congrArg some h
def adV{s:Nat}{x:D}{rows:List Row}(h:aht s x=some rows):∃o,x=.sl o s rows/\(o=false\/rows=[]):=by
 cases x<;>simp[aht] at h;rename_i o s' rows'
 by_cases e:s'=s
 ·subst e;simp at h;cases o with
  |false=>simp at h;subst h;exact⟨false,rfl,.inl rfl⟩
  |true=>
   cases rows' with
   |nil=>simp at h;subst h;exact⟨true,rfl,.inr rfl⟩
   |cons _ _=>simp at h
 ·rw[lT e] at h;simp at h
def L6{strict:Bool}{row:Row}{μ:Nat->Value}{h:View}(cell:Nat->Option Value)(Rel:D->Value->Prop)(hrow:∀k x,row[k]? =some x->∃g,cell k=some g/\Rel x g)
  (hint:∀k n g,Rel (.int k n) g->g=.int k n) (akU:∀b g,Rel (.bool b) g->g=.bool b) (hstr:∀s g,Rel (.str s) g->g=.string ⟨⟨s⟩⟩)
  (hsl:∀o s rs g,Rel (.sl o s rs) g->(strict=true->o=false\/rs=[])->ro h (.sl false s rs) g):
  ∀(Xe:List CT) (j:Nat) (c:List V->Acc V) (m0:Mem) (l:Log) (r:V×Mem×Log),(BI strict Xe row j c).run m0 l=some r->
   ∃vs cs,(c vs).run m0 l=some r/\cs.length=Xe.length/\bD μ m h vs cs/\∀i g,cs[i]? =some g->cell (j+i)=some g
 |[],j,c,m0,l,r,hr=>⟨[],[],hr,rfl,by simp[bD],by simp⟩
 |ct::Xe,j,c,m0,l,r,hr=>by
  have go:∀(x:D) (y:V),nth row j=x->x≠.GL->(∀g,Rel x g->aC μ m h y g)->(BI strict Xe row (j+1) λvs=>c (y::vs)).run m0 l=some r->
    ∃vs cs,(c vs).run m0 l=some r/\cs.length=(ct::Xe).length/\bD μ m h vs cs/\∀i g,cs[i]? =some g->cell (j+i)=some g:=by
   intro x y hx hxn hs hr;obtain⟨g,hg,hrel⟩:=hrow j x (YO hx hxn);obtain⟨vs,cs,h1,h2,h3,h4⟩:=L6 cell Rel hrow hint akU hstr hsl Xe (j+1) _ m0 l r hr;refine⟨y::vs,g::cs,h1,by simp[h2],by simp only[bD];exact⟨g,cs,rfl,hs g hrel,h3⟩, ?_⟩;intro i g' hi;cases i with
   |zero=>simp at hi;subst hi;exact hg
   |succ i=>have:=h4 i g' (by simpa using hi);rw[show j+(i+1)=j+1+i from by omega];exact this
  cases ct with
  |int k=>
   simp only[BI,Acc.run,gW] at hr;cases ha:asInt k (nth row j) with
   |none=>simp[ha,Acc.run] at hr
   |some n=>simp only[ha,Acc.run] at hr;exact go _ _ (Um ha) (by simp) (λg hg=>by rw[hint _ _ g hg];simp[aC,ro]) hr
  |bool=>
   simp only[BI,Acc.run,Xg] at hr;cases ha:asBool (nth row j) with
   |none=>simp[ha,Acc.run] at hr
   |some n=>simp only[ha,Acc.run] at hr;exact go _ _ (Rj ha) (by simp) (λg hg=>by rw[akU _ g hg];simp[aC,ro]) hr
  |str=>
   simp only[BI,Acc.run,cStr] at hr;cases ha:Xf (nth row j) with
   |none=>simp[ha,Acc.run] at hr
   |some n=>simp only[ha,Acc.run] at hr;exact go _ _ (Un ha) (by simp) (λg hg=>by rw[hstr _ g hg];simp[aC,ro]) hr
  |other=>simp[BI,Acc.run] at hr
  |sl s=>
   simp only[BI,Acc.run,cRo,SE] at hr;cases strict with
   |true=>
    simp only[bZ] at hr;cases ha:aht s (nth row j) with
    |none=>simp[ha,Acc.run] at hr
    |some n=>simp only[ha,Acc.run] at hr;obtain⟨o,hx,ho⟩:=adV ha;exact go _ _ hx (by simp) (λg hg=>by simp only[aC];exact hsl _ _ _ g hg (λ_=>ho)) hr
   |false=>
    simp only[dX] at hr;cases ha:ae6 s (nth row j) with
    |none=>simp[ha,Acc.run] at hr
    |some n=>simp only[ha,Acc.run] at hr;obtain⟨o,hx⟩:=Xq ha;exact go _ _ hx (by simp) (λg hg=>by simp only[aC];exact hsl _ _ _ g hg (λh=>by cases h)) hr
def L8{h:View}{b:Nat}:∀{r:Row} {o k:Nat} {x:D},nN h r b o->r[k]? =some x->∃g,h b (o+k)=some g/\ro h x g
 |[],_,_,_,_,hk=>by simp at hk
 |y::r,o,0,x,q,hk=>by simp only[nN] at q;simp at hk;subst hk;simpa using q.1
 |y::r,o,k+1,x,q,hk=>by
  simp only[nN] at q;have:=L8 q.2 (by simpa using hk)
  rwa [show o+(k+1)=o+1+k from by omega]
def KX{h:View}:∀{r:Row} {cs:List Value} {k:Nat} {x:D},dY h r cs->r[k]? =some x->∃g,cs[k]? =some g/\ro h x g
 |[],_,_,_,_,hk=>by simp at hk
 |y::r,cs,0,x,⟨v,cs',e,h1,h2⟩,hk=>by simp at hk;subst hk;subst e;exact⟨v,rfl,h1⟩
 |y::r,cs,k+1,x,⟨v,cs',e,h1,h2⟩,hk=>by subst e;simpa using KX h2 (by simpa using hk)
def Xw{H:Heap}{h:View}:∀{r:Row} {cs:List Value} {N:List Nat} {k:Nat} {x:D},dF H h r cs N->r[k]? =some x->∃g N1,cs[k]? =some g/\ow H h x g N1
 |[],_,_,_,_,_,hk=>by simp at hk
 |y::r,cs,N,0,x,q,hk=>by obtain⟨v,cs',N1,N2,rfl,rfl,h1,h2⟩:=vM q;simp at hk;subst hk;exact⟨v,N1,rfl,h1⟩
 |y::r,cs,N,k+1,x,q,hk=>by obtain⟨v,cs',N1,N2,rfl,rfl,h1,h2⟩:=vM q;simpa using Xw h2 (by simpa using hk)
def AX{h:View}{s b:Nat}:∀{rs:List Row} {o k:Nat} {r:Row},jC h s rs b o->rs[k]? =some r->r.length=s/\nN h r b (o+k * s)
 |[],_,_,_,_,hk=>by simp at hk
 |y::rs,o,0,x,q,hk=>by simp only[jC] at q;simp at hk;subst hk;simpa using⟨q.1,q.2.1⟩
 |y::rs,o,k+1,x,q,hk=>by
  simp only[jC] at q;have:=AX q.2.2 (by simpa using hk)
  rwa [show o+(k+1) * s=o+s+k * s from by rw[Nat.add_mul];omega]
def JH{h:View}{s:Nat}:∀{rs:List Row} {cs:List Value} {k:Nat} {r:Row},dD h s rs cs->rs[k]? =some r->r.length=s/\dY h r (cs.drop (k * s))
 |[],_,_,_,_,hk=>by simp at hk
 |y::rs,cs,0,x,q,hk=>by simp at hk;subst hk;simpa using⟨q.1,q.2.1⟩
 |y::rs,cs,k+1,x,q,hk=>by
  have:=JH q.2.2 (by simpa using hk);rw[List.drop_drop] at this
  rwa [show(k+1) * s=s+k * s from by rw[Nat.add_mul];omega]
def Ux{H:Heap}{h:View}{s:Nat}:∀{rs:List Row} {cs:List Value} {N:List Nat} {k:Nat} {r:Row},cO H h s rs cs N->rs[k]? =some r->r.length=s/\∃N1,dF H h r (cs.drop (k * s)) N1
 |[],_,_,_,_,_,hk=>by simp at hk
 |y::rs,cs,N,0,x,q,hk=>by simp only[cO] at q;obtain⟨h1,N1,N2,rfl,h2,h3⟩:=q;simp at hk;subst hk;exact⟨h1,N1,by simpa using h2⟩
 |y::rs,cs,N,k+1,x,q,hk=>by
  simp only[cO] at q;obtain⟨h1,N1,N2,rfl,h2,h3⟩:=q;have:=Ux h3 (by simpa using hk);rw[List.drop_drop] at this
  rwa [show(k+1) * s=s+k * s from by rw[Nat.add_mul];omega]
def ac8{h:View}{fz fl:Bool}{ver s:Nat}{rows:List Row}{r i:Nat}{row:Row}{N:List Nat}(hq:iT G.μ m (aX w) h r (.arr fz fl ver s rows) N)(hl:h.le (full w))(hi:rows[i]? =some row):
  ∃b o cap,G.μ r=.slice (some ⟨b,o,none⟩) rows.length cap/\(fz=false->o=0)/\row.length=s/\
   ∃Rel:D->Value->Prop,(∀k x,row[k]? =some x->∃g,full w b (o+i * s+k)=some g/\Rel x g)/\
   (∀k n g,Rel (.int k n) g->g=.int k n)/\(∀b g,Rel (.bool b) g->g=.bool b)/\(∀s g,Rel (.str s) g->g=.string ⟨⟨s⟩⟩)/\
   (∀o s rs g,Rel (.sl o s rs) g->(o=false\/rs=[])->ro h (.sl false s rs) g):=by
 have hne:rows≠[]:=by intro e;subst e;simp at hi
 cases fz with
 |true=>
  obtain⟨h1,_⟩:=hq;simp only[ro] at h1;obtain⟨a,cap,h2,h3,h4⟩:=h1;obtain⟨b,o,rfl,h5⟩:=h4 hne;obtain⟨h6,h7⟩:=AX h5 hi;refine⟨b,o,cap,h2,by simp,h6,ro h,λk x hk=> ?_, ?_, ?_, ?_, ?_⟩
  ·obtain⟨g,hg1,hg2⟩:=L8 h7 hk;exact⟨g,hl _ _ _ hg1,hg2⟩
  ·intro k n g hg;simpa[ro] using hg
  ·intro b g hg;simpa[ro] using hg
  ·intro s g hg;simpa[ro] using hg
  ·intro o s rs g hg _;exact KP hg
 |false=>
  simp only[iT] at hq;rcases hq with⟨rfl,_,_⟩|⟨b,cap,cs,t,N',h1,h2,h3,h4,h5,_⟩
  ·exact absurd rfl hne
  ·have hfull:∀k g,(cs.toList.drop (i * s))[k]? =some g->full w b (0+i * s+k)=some g:=by intro k g hg;rw[List.getElem?_drop] at hg;rw[full_cell h3,Nat.zero_add];exact hg
   cases fl with
   |true=>
    obtain⟨h6,h7⟩:=JH h5.1 hi;refine⟨b,0,cap,h1,by simp,h6,ro h,λk x hk=> ?_, ?_, ?_, ?_, ?_⟩
    ·obtain⟨g,hg1,hg2⟩:=KX h7 hk;exact⟨g,hfull k g hg1,hg2⟩
    ·intro k n g hg;simpa[ro] using hg
    ·intro b g hg;simpa[ro] using hg
    ·intro s g hg;simpa[ro] using hg
    ·intro o s rs g hg _;exact KP hg
   |false=>
    obtain⟨h6,N1,h7⟩:=Ux h5 hi;refine⟨b,0,cap,h1,by simp,h6,λx g=>∃N,ow (aX w) h x g N,λk x hk=> ?_, ?_, ?_, ?_, ?_⟩
    ·obtain⟨g,N2,hg1,hg2⟩:=Xw h7 hk;exact⟨g,hfull k g hg1,N2,hg2⟩
    ·rintro k n g ⟨N,hg⟩;simp only[ow] at hg;exact hg.1
    ·rintro b g ⟨N,hg⟩;simp only[ow] at hg;exact hg.1
    ·rintro s g ⟨N,hg⟩;simp only[ow] at hg;exact hg.1
    ·rintro o s rs g ⟨N,hg⟩ ho;cases o with
     |false=>simp only[ow] at hg;exact hg.2
     |true=>
      rcases ho with ho|rfl
      ·cases ho
      ·simp only[ow] at hg;rcases hg with⟨_,rfl,_⟩|⟨b,cap,cs,t,N',e1,e2,_⟩
       ·simp[ro]
       ·simp only[ro];exact⟨_,cap,e1,by simp,λe=>absurd rfl e⟩
def ac9{h:View}{s:Nat}{rows:List Row}{g:Value}{i:Nat}{row:Row}{N:List Nat}(hq:O5 (aX w) h s rows g N)(hi:rows[i]? =some row):
  ∃b o cap,g=.slice (some ⟨b,o,none⟩) rows.length cap/\row.length=s/\∀k x,row[k]? =some x->∃v,full w b (o+i * s+k)=some v/\ro h x v:=by
 rcases hq with⟨rfl,_,_⟩|⟨b,o,cap,cs,t,h1,h2,h3,h4,h5,_⟩
 ·simp at hi
 ·obtain⟨h6,h7⟩:=JH h5 hi;refine⟨b,o,cap,h1,h6,λk x hk=> ?_⟩;obtain⟨v,hv1,hv2⟩:=KX h7 hk;refine⟨v, ?_,hv2⟩;rw[full_cell (w:=w) h3];rw[List.getElem?_drop,List.getElem?_drop,<-Nat.add_assoc] at hv1;exact hv1
def aac{t:TypeId}{b:Nat}{x:Value}{v:V}(hok:KF P t=true)(hc:(Nat.beq (iM P t) 1 && !(xZ P t))=true)(hx:full w b 0=some x)(hs:aC G.μ m (Gh U w G) v x):
  ∃g,(Instr.loadAt t (.pointer (some ⟨b,0,none⟩))).run P w=.ok g w/\aC G.μ m (Gh U w G) v g:=by
 simp only[su,Bool.not_eq_true'] at hc;have hsz:=lq hc.1;have hv:Ac P t [v]=some v:=by simp[Ac,hc.2]
 have hp:bD G.μ m (Gh U w G) [v] [x]:=by simp only[bD];exact⟨x,[],rfl,hs,rfl⟩
 obtain⟨g,hg⟩:=Xv hv hp;refine⟨g,yh hok (by simp;omega) ?_ hg,AV hv hp hg⟩;intro j y hj;cases j with
 |zero=>simp at hj;subst hj;exact hx
 |succ j=>simp at hj
def afr(hA:At base U M0 w0 w m G){t:TypeId}{a:V}{ga:Value}(ha:aC G.μ m (Gh U w G) a ga){v:V}{l l':Log}(h:(ae8 P t a).run m l=some (v,m',l')):
  ∃g,(Instr.loadAt t ga).run P w=.ok g w/\m'=m/\aC G.μ m (Gh U w G) v g:=by
 simp only[ae8] at h;replace h:=ah h;obtain⟨_,m1,l1,h1,h⟩:=h;obtain⟨hok,rfl,rfl⟩:=bG h1;simp only[su] at hok;obtain⟨hok,hsz⟩:=hok;have hsz:=lq hsz;cases a with
 |ptr r off=>
  simp only at h;replace h:=ah h;obtain⟨c,m2,l2,h2,h⟩:=h;rw[jV] at h2;cases h2;cases hc:get r m1 with
  |none=>rw[hc] at h;exact(ak h).elim
  |some c=>
   rw[hc] at h;cases c with
   |jB _ _ _ _ _=>exact(ak h).elim
   |arr _ _ _ _ _=>exact(ak h).elim
   |dead=>exact(ak h).elim
   |xk _ _ _=>exact(ak h).elim
   |jM T x=>simp only at h;replace h:=ah h;obtain⟨_,m2,l2,h2,h⟩:=h;obtain⟨hfit,rfl,rfl⟩:=bG h2;simp only[run_pure,dG,eH] at h;obtain⟨rfl,rfl,rfl⟩:=h;simp only[su] at hfit;have h0:=lq hfit.1;subst h0;simp only[aC,hc] at ha;obtain⟨_,b,hμ,rfl⟩:=ha;obtain⟨_,b',y,e1,e2,e3⟩:=hA.ok.cell r _ hc (by rw[hA.out];simp);rw[hμ] at e1;cases e1;obtain⟨g,hg1,hg2⟩:=aac (P:=P) hok (by rw[su];exact hfit.2) (kS _ _ _ _ _ _ e2) e3;exact⟨g,hg1,rfl,hg2⟩
   |box T cs=>
    simp only at h;replace h:=ah h;obtain⟨_,m2,l2,h2,h⟩:=h;obtain⟨hfit,rfl,rfl⟩:=bG h2;obtain⟨hv,rfl,rfl⟩:=dn h;simp only[aC,hc] at ha;obtain⟨_,b,hμ,rfl⟩:=ha;obtain⟨b',arr,e1,e2,e3,e4⟩:=hA.ok.cell r _ hc (by rw[hA.out];simp);rw[hμ] at e1;cases e1;have hp:=Uw off (iM P t) e3;have hlen:arr.size=cs.length:=by simpa using eP e3
    have hfit:=Nat.le_of_ble_eq_true hfit;obtain⟨g,hg⟩:=Xv hv hp;refine⟨g,yh hok (by simp;omega) ?_ hg,rfl,AV hv hp hg⟩;intro j x hj;have hj':j<iM P t:=by have:=(FK.1 hj).1;simp at this;omega
    rw[List.getElem?_take,if_pos hj',List.getElem?_drop] at hj;have:=full_cell (w:=w) e2 (off+j);rw[hj] at this;exact this
 |sG x=>simp only at h;replace h:=ah h;obtain⟨_,m2,l2,h2,h⟩:=h;obtain⟨hfit,rfl,rfl⟩:=bG h2;simp only[run_pure,dG,eH] at h;obtain⟨rfl,rfl,rfl⟩:=h;simp only[aC] at ha;obtain⟨b,y,rfl,e2,e3⟩:=ha;obtain⟨g,hg1,hg2⟩:=aac (P:=P) hok hfit (kS _ _ _ _ _ _ e2) e3;exact⟨g,hg1,rfl,hg2⟩
 |lS row off=>
  simp only at h;simp only[aC] at ha;obtain⟨b,o,rfl,hrow⟩:=ha;obtain⟨vs,cs,h2,h3,h4,h5⟩:=L6 (m:=m1) (μ:=G.μ) (h:=Gh U w G) (λk=>Gh U w G b (o+k)) (ro (Gh U w G)) (λk x hk=>L8 hrow hk)
   (λk n g hg=>by simpa[ro] using hg) (λb g hg=>by simpa[ro] using hg) (λs g hg=>by simpa[ro] using hg) (λ_ s rs g hg _=>KP hg) _ _ _ _ _ _ h
  obtain⟨hv,rfl,rfl⟩:=dn h2;obtain⟨g,hg⟩:=Xv hv h4;refine⟨g,yh hok (by rw[h3,hsz]) ?_ hg,rfl,AV hv h4 hg⟩;intro j x hj;have:=h5 j x hj;rw[Nat.add_assoc];exact kS _ _ _ _ _ _ this
 |lI r ver i off=>
  simp only at h;replace h:=ah h;obtain⟨c,m2,l2,h2,h⟩:=h;rw[jV] at h2;cases h2;cases hc:get r m1 with
  |none=>rw[hc] at h;exact(ak h).elim
  |some c=>
   rw[hc] at h;cases c with
   |box _ _=>exact(ak h).elim
   |jM _ _=>exact(ak h).elim
   |jB _ _ _ _ _=>exact(ak h).elim
   |dead=>exact(ak h).elim
   |xk dP s rows=>
    simp only at h;replace h:=ah h;obtain⟨_,m2,l2,h2,h⟩:=h;obtain⟨hb,rfl,rfl⟩:=bG h2;have hb:=lq hb;subst hb;replace h:=ah h;obtain⟨row,m2,l2,h2,h⟩:=h;obtain⟨hrow,rfl,rfl⟩:=dn h2;simp only[aC,hc] at ha;obtain⟨b,o,n,cap,hμ,rfl⟩:=ha.2.2 trivial;have hcell:=hA.ok.cell r _ hc (by rw[hA.out];simp);obtain⟨b',o',cap',e1,e3,q1⟩:=ac9 hcell hrow;rw[hμ] at e1;simp only[Value.slice.injEq,dG,Addr.mk.injEq] at e1;obtain⟨⟨rfl,rfl,_⟩,_,_⟩:=e1;obtain⟨vs,cs,h2,h3,h4,h5⟩:=L6 (m:=_) (μ:=G.μ) (h:=Gh U w G) (λk=>full w b (o+i * s+k)) (ro (Gh U w G)) q1
     (λk n g hg=>by simpa[ro] using hg) (λb g hg=>by simpa[ro] using hg) (λs g hg=>by simpa[ro] using hg) (λ_ s rs g hg _=>KP hg) _ _ _ _ _ _ h
    obtain⟨hv,rfl,rfl⟩:=dn h2;obtain⟨g,hg⟩:=Xv hv h4;refine⟨g,yh hok (by rw[h3,hsz]) ?_ hg,rfl,AV hv h4 hg⟩;intro j x hj;have:=h5 j x hj;rw[show o+(i * s+off)+j=o+i * s+(off+j) from by omega];exact this
   |arr fz fl dP s rows=>simp only at h;replace h:=ah h;obtain⟨_,m2,l2,h2,h⟩:=h;obtain⟨hb,rfl,rfl⟩:=bG h2;have hb:=lq hb;subst hb;replace h:=ah h;obtain⟨row,m2,l2,h2,h⟩:=h;obtain⟨hrow,rfl,rfl⟩:=dn h2;simp only[aC,hc] at ha;obtain⟨b,n,cap,hμ,rfl⟩:=ha.2.2 trivial;have hcell:=hA.ok.cell r _ hc (by rw[hA.out];simp);obtain⟨b',o,cap',e1,e2,e3,Rel,q1,q2,q3,q4,q5⟩:=ac8 hcell (kS _ _ _) hrow;rw[hμ] at e1;simp only[Value.slice.injEq,dG,Addr.mk.injEq] at e1;obtain⟨⟨rfl,ho,_⟩,_,_⟩:=e1;subst ho;obtain⟨vs,cs,h2,h3,h4,h5⟩:=L6 (m:=_) (μ:=G.μ) (h:=Gh U w G) (λk=>full w b (0+i * s+k)) Rel q1 q2 q3 q4 (λo s rs g hg hs=>q5 o s rs g hg (hs rfl)) _ _ _ _ _ _ h;obtain⟨hv,rfl,rfl⟩:=dn h2;obtain⟨g,hg⟩:=Xv hv h4;refine⟨g,yh hok (by rw[h3,hsz]) ?_ hg,rfl,AV hv h4 hg⟩;intro j x hj;have:=h5 j x hj;rw[show i * s+off+j=0+i * s+(off+j) from by omega];exact this
 |d _=>exact(ak h).elim
 |nil _=>exact(ak h).elim
 |own _ _=>exact(ak h).elim
 |clo _ _ _=>exact(ak h).elim
 |agg _=>exact(ak h).elim
 |Gz _=>exact(ak h).elim
 |undef=>exact(ak h).elim
end
end Go.Vm
namespace Go.Vm
open Go
section
variable {base:Nat} {U:Nat->Prop} {M0:List Nat} {w0 w w':World} {m m':Mem} {G G':GS} {P:Program}
def jP{μ:Nat->Value}{h:View}{v:V}{g:Value}(h1:one v=true)(q:aC μ m h v g):g.oneCell'=true:=by
 cases v with
 |d x=>simp only[aC] at q;exact IC q
 |nil s=>simp only[aC] at q;subst q;rfl
 |own _ _=>simp only[aC] at q;obtain⟨⟨a,n,c,rfl⟩,_⟩:=q;rfl
 |ptr _ _=>simp only[aC] at q;obtain⟨⟨b,o,rfl⟩,_⟩:=q;rfl
 |lI _ _ _ _=>simp only[aC] at q;obtain⟨⟨b,o,rfl⟩,_⟩:=q;rfl
 |lS _ _=>simp only[aC] at q;obtain⟨b,o,rfl,_⟩:=q;rfl
 |sG _=>simp only[aC] at q;obtain⟨b,x,rfl,_⟩:=q;rfl
 |clo _ _ _=>simp only[aC] at q;obtain⟨a,c,rfl,_⟩:=q;rfl
 |agg _=>simp[one] at h1
 |Gz _=>simp[one] at h1
 |undef=>simp[one] at h1
def cells_one{g:Value}(h:g.oneCell'=true):g.cells=#[g]:=by cases g<;>first|rfl|simp[Value.oneCell'] at h
def Xx{μ:Nat->Value}{h:View}:∀{vs:List V} {gs:List Value},vs.all one=true->bD μ m h vs gs->∀x∈gs,x.oneCell'=true
 |[],gs,_,q=>by simp only[bD] at q;subst q;simp
 |v::vs,gs,h1,q=>by
  obtain⟨g,gs',rfl,q1,q2⟩:=jl q;simp only[List.all_cons,su] at h1;intro x hx;simp only[List.mem_cons] at hx;rcases hx with rfl|hx
  ·exact jP h1.1 q1
  ·exact Xx h1.2 q2 x hx
def cells_ok{μ:Nat->Value}{h:View}{v:V}{g:Value}(h1:v.cells.all one=true)(q:aC μ m h v g):bD μ m h v.cells g.cells.toList/\∀x∈g.cells.toList,x.oneCell'=true:=by
 have single:one v=true->v.cells=[v]->bD μ m h v.cells g.cells.toList/\∀x∈g.cells.toList,x.oneCell'=true:=by intro ho hv;have:=jP ho q;rw[cells_one this,hv];exact⟨by simp only[bD];exact⟨g,[],rfl,q,rfl⟩,by simpa using this⟩
 cases v with
 |agg cs=>simp only[aC] at q;obtain⟨a,rfl,q⟩:=q;exact⟨q,Xx h1 q⟩
 |Gz _=>simp[V.cells,one] at h1
 |undef=>simp[V.cells,one] at h1
 |_=>exact single rfl rfl
def Xy{μ:Nat->Value}{h:View}(c:CT)(g:Value):aC μ m h (Qj c g) g:=by unfold Qj;split<;>simp[aC,ro]
def JI{μ:Nat->Value}{h:View}:∀(cs:List CT) (gs:List Value),bD μ m h (xq cs gs) gs
 |[],[]=>by simp[xq,bD]
 |_::_,[]=>by simp[xq,bD]
 |[],g::gs=>by simp only[xq,bD];exact⟨g,gs,rfl,by simp[aC],JI [] gs⟩
 |c::cs,g::gs=>by simp only[xq,bD];exact⟨g,gs,rfl,Xy c g,JI cs gs⟩
def aoX{μ:Nat->Value}{h:View}(t:TypeId)(g:Value):aC μ m h (cv P t g) g:=by
 unfold cv;split
 ·simp only[aC];exact⟨_,rfl,JI _ _⟩
 ·split
  ·exact Xy _ _
  ·simp[aC]
def Po(μ:Nat->Value)(m:Mem)(h:View)(tm:iF)(a:Act):Prop:=∀t v,get t tm=some v->t<a.tmps.size/\aC μ m h v (a.tmps.getD t undef)
def Jb{μ:Nat->Value}{h:View}{tm:iF}{a:Act}(hT:Po μ m h tm a)(t:TypeId)(x:Operand):aC μ m h (ev P tm t x) (a.eval x):=by
 cases x with
 |tmp i=>
  simp only[ev,IY];cases hg:get i tm with
  |none=>simp[aC]
  |some v=>exact(hT i v hg).2
 |const v=>exact aoX t v
 |global g=>simp[ev,aC]
 |func f=>simp only[ev,aC];exact⟨#[],#[],rfl,by simp[bD],by simp[bD]⟩
def L9{μ:Nat->Value}{h:View}{tm:iF}{a:Act}(hT:Po μ m h tm a):∀(xs:List Operand) (ts:List TypeId),bD μ m h (mX P tm xs ts) (xs.map a.eval)
 |[],_=>by simp[mX,bD]
 |x::xs,ts=>by simp only[mX,bD,QY];exact⟨_,_,rfl,Jb hT _ x,L9 hT xs _⟩
def DV{μ:Nat->Value}{h:View}{t:TypeId}{z:List V}(hz:BH P t=some z):∃i zv,P.info? t=some i/\i.zero=some zv/\bD μ m h z zv.cells.toList:=by
 unfold BH at hz;cases hi:P.info? t with
 |none=>simp[hi] at hz
 |some i=>
  simp only[hi] at hz;cases hzv:i.zero with
  |none=>simp[hzv] at hz
  |some zv=>simp only[hzv,dG] at hz;subst hz;exact⟨i,zv,rfl,hzv,JI _ _⟩
def uN.rewrite(hg:uN base U w m G)(ho:G.out=[])(hfr:Fr M0 w0 w G){r:Nat}{c c':Cell}{μ':Nat->Value}{N:List Nat}(hc:get r m=some c)(hk:Keep (G.F r) w w')(hN:N.Nodup)
  (hNs:∀b,b∈N->(b∈G.F r\/b∈G.E\/w.heap.size<=b)/\b<w'.heap.size) (hμ:∀k,k≠r->μ' k=G.μ k) (hle:oH G.μ μ' r c c')
  (hcell:∀h':View,(Gh U w G).le h'->sF G.μ m μ' (put r c' m)->(∀k,k∈G.E->k ∉ N->NW h' (aX w) [k])->iT μ' (put r c' m) (aX w') h' r c' N):
  Nx base U M0 w0 w m G w' (put r c' m) ⟨μ',Dy G.F r N,[],[]⟩:=by
 have hro:r ∉ G.out:=by rw[ho];simp
 obtain⟨k1,k2⟩:=hg.akT hc hro;have hk':Keep (G.E++G.F r) w w':=⟨hk.os,hk.tape,hk.output,hk.size,λb hb hn=>hk.block b hb (λh=>hn (by simp[h]))⟩
 obtain⟨q1,q2⟩:=uN.world k1 hk' (E':=N) hN (λb hb=>by
  have:=hNs b hb;refine⟨?_,this.2⟩;rcases this.1 with h|h|h
  ·left;simp[h]
  ·left;simp[h]
  ·exact .inr h)
 have hup:Dy (Dy G.F r []) r N=Dy G.F r N:=by
  funext k
  by_cases e:k=r
  ·subst e;simp
  ·simp[dM _ e]
 have hml:sF G.μ m μ' (put r c' m):=qg hμ (λc0 h0=>by rw[hc] at h0;cases h0;exact hle);have hset:=uN.set (U:=U) (w:=w') q1 r c' μ' N [] [] (by simpa using hN) (by simp) hml hμ (λk hkr=>by simp[ho,hkr]) (by simp)
  (λhv _=>hcell _ (k2.view.trans' (q2.trans' hv)) hml (λk hkE hkN b hb cs t fr hH o v hv=>by
   simp only[List.mem_singleton] at hb;subst hb;have WH:∀j,b ∉ G.F j:=λj hj=>hg.OM j b hj hkE
   have hlt:=hg.lt b (.inl hkE);have hsame:aX w' b=aX w b:=hk.block b hlt.1 (WH r);refine yV (w:=w') (N:=[b]) (λx hx=> ?_) b (by simp) cs t fr (hsame.trans hH) o v hv;simp only[List.mem_singleton] at hx;subst hx;refine⟨hlt.2.2, ?_⟩;rintro(h|⟨j,h⟩)
   ·simp at h
   ·rw[hup] at h
    by_cases e:j=r
    ·subst e;rw[lK] at h;exact hkN h
    ·rw[dM _ e] at h;exact WH j h))
 simp only[hup] at hset;obtain⟨s1,s2⟩:=hset;refine⟨s1,rfl,rfl,hml,k2.view.trans' (q2.trans' s2.view), ?_⟩;refine⟨hfr.keep.trans hk (λx hx=>hfr.fr x (.inr ⟨r,hx⟩)), ?_⟩;rintro b (hb|⟨k,hb⟩)
 ·simp at hb
 ·by_cases e:k=r
  ·subst e;simp only[lK] at hb;rcases(hNs b hb).1 with h|h|h
   ·exact hfr.fr b (.inr ⟨_,h⟩)
   ·exact hfr.fr b (.inl h)
   ·exact .inr (Nat.le_trans hfr.keep.size h)
  ·simp only[dM _ e] at hb;exact hfr.fr b (.inr ⟨k,hb⟩)
def At.rewrite(hA:At base U M0 w0 w m G){r:Nat}{c c':Cell}{μ':Nat->Value}{N:List Nat}(hc:get r m=some c)(hk:Keep (G.F r) w w')(hN:N.Nodup)
  (hNs:∀b,b∈N->(b∈G.F r\/w.heap.size<=b)/\b<w'.heap.size) (hμ:∀k,k≠r->μ' k=G.μ k) (hle:oH G.μ μ' r c c')
  (hcell:∀h':View,(Gh U w G).le h'->sF G.μ m μ' (put r c' m)->iT μ' (put r c' m) (aX w') h' r c' N):
  Nx base U M0 w0 w m G w' (put r c' m) ⟨μ',Dy G.F r N,[],[]⟩:=
 hA.ok.rewrite hA.out hA.fr hc hk hN (λb hb=>⟨(hNs b hb).1.imp id .inr,(hNs b hb).2⟩) hμ hle (λh' h1 h2 _=>hcell h' h1 h2)
def Nx.after{G1:GS}{m1:Mem}(hl:KE m G m1 G1)(h:Nx base U M0 w0 w m1 G1 w' m' G'):Nx base U M0 w0 w m G w' m' G':=
 ⟨h.ok,h.E,h.out,mZ hl.mem h.mem,hl.view.trans' h.view,h.fr⟩
def Fq{b:Nat}{cs:Array Value}{M:List Nat}(hb:b∈M):Keep M w (w.setRow b cs):=
 ⟨rfl,rfl,rfl,by simp[World.setRow],λk _ hk=>setRow_other w b k cs (λe=>hk (e ▸ hb))⟩
def Og{o:Obj}{M:List Nat}:Keep M w (w.alloc o):=⟨rfl,rfl,rfl,by simp,λk hk _=>heap_alloc_old w o k hk⟩
def Mc{M:List Nat}:Keep M w w.drew:=⟨rfl,rfl,rfl,Nat.le_refl _,λ_ _ _=>rfl⟩
def AY{H:Heap}{h:View}:∀{r:Row} {cs cs':List Value} {N:List Nat},cs.take r.length=cs'.take r.length->dF H h r cs N->dF H h r cs' N
 |[],_,_,_,_,q=>by simpa[dF] using q
 |x::r,cs,cs',N,e,q=>by
  obtain⟨v,cs1,N1,N2,rfl,rfl,h1,h2⟩:=vM q;cases cs' with
  |nil=>simp at e
  |cons v' alV=>simp only[OL,List.take_succ_cons,List.cons.injEq] at e;obtain⟨rfl,e⟩:=e;simp only[dF];exact⟨v,alV,N1,N2,rfl,rfl,h1,AY e h2⟩
def mg{H:Heap}{h:View}:∀{a b:Row} {cs:List Value} {N:List Nat},dF H h (a++b) cs N↔∃N1 N2,N=N1++N2/\dF H h a cs N1/\dF H h b (cs.drop a.length) N2
 |[],b,cs,N=>by
  simp only[List.nil_append,dF,zln,List.drop_zero];constructor
  ·intro q;exact⟨[],N,rfl,rfl,q⟩
  ·rintro⟨N1,N2,rfl,rfl,q⟩;simpa using q
 |x::a,b,cs,N=>by
  simp only[WI,dF];constructor
  ·rintro⟨v,cs',N1,N2,rfl,rfl,h1,h2⟩;obtain⟨N3,N4,rfl,h3,h4⟩:=mg.1 h2;exact⟨N1++N3,N4,by simp,⟨v,cs',N1,N3,rfl,rfl,h1,h3⟩,by simpa using h4⟩
  ·rintro⟨N1,N2,rfl,⟨v,cs',N3,N4,rfl,rfl,h1,h3⟩,h4⟩;exact⟨v,cs',N3,N4++N2,rfl,by simp,h1,mg.2 ⟨N4,N2,rfl,h3,by simpa using h4⟩⟩
def Uy{H:Heap}{h:View}:∀{r:Row} {cs:List Value} {N:List Nat},dF H h r cs N->r.length<=cs.length
 |[],_,_,_=>by simp
 |x::r,cs,N,q=>by obtain⟨v,cs',N1,N2,rfl,rfl,_,h2⟩:=vM q;have:=Uy h2;simp;omega
def rO{α:Type}{l xs:List α}{o:Nat}(h:o+xs.length<=l.length):(splice l o xs).length=l.length:=by simp[splice];omega
def YP{H:Heap}{h:View}{row xs:Row}{cs gs:List Value}{N N1:List Nat}{o:Nat}(q:dF H h row cs N)(q1:dF H h xs gs N1)(hl:xs.length=gs.length)(ho:o+xs.length<=row.length):
  ∃N' Dr,dF H h (splice row o xs) (splice cs o gs) N'/\(N'++Dr).Perm (N++N1):=by
 have hrow:row=row.take o++((row.drop o).take xs.length++row.drop (o+xs.length)):=by rw[<-List.drop_drop,List.take_append_drop,List.take_append_drop]
 have hcl:=Uy q;rw[hrow] at q;obtain⟨Na,Nb,rfl,qa,qb⟩:=mg.1 q;obtain⟨Nc,Nd,rfl,qc,qd⟩:=mg.1 qb;have l1:(row.take o).length=o:=by simp;omega
 have l2:((row.drop o).take xs.length).length=xs.length:=by simp;omega
 rw[l1,List.drop_drop,l2] at qd;refine⟨Na++(N1++Nd),Nc, ?_, ?_⟩
 ·have e:splice row o xs=row.take o++(xs++row.drop (o+xs.length)):=by simp[splice]
  rw[e];refine mg.2 ⟨Na,N1++Nd,rfl, ?_, ?_⟩
  ·refine AY ?_ qa;rw[l1];simp only[splice,BD];rw[List.take_append_of_le_length (by simp;omega)];rw[List.take_take];congr 1;omega
  ·rw[l1];have hd:(splice cs o gs).drop o=gs++cs.drop (o+gs.length):=by
    simp only[splice,BD];rw[List.drop_append_of_le_length (by simp;omega)];have:(cs.take o).drop o=[]:=by simp
    rw[this];rfl
   rw[hd];refine mg.2 ⟨N1,Nd,rfl, ?_, ?_⟩
   ·refine AY ?_ q1;rw[hl];simp
   ·rw[hl];rw[hl] at qd;simpa using qd
 ·simp only[BD];refine List.Perm.append_left Na ?_;have h1:(N1++(Nd++Nc)).Perm ((Nd++Nc)++N1):=List.perm_append_comm;have h2:((Nd++Nc)++N1).Perm ((Nc++Nd)++N1):=List.Perm.append_right N1 List.perm_append_comm;simpa using h1.trans h2
def Fv{H:Heap}{h:View}{s:Nat}:∀{rs:List Row} {cs cs':List Value} {N:List Nat},cs.take (rs.length * s)=cs'.take (rs.length * s)->cO H h s rs cs N->cO H h s rs cs' N
 |[],_,_,_,_,q=>by simpa[cO] using q
 |r::rs,cs,cs',N,e,q=>by
  simp only[cO] at q|-;obtain⟨h1,N1,N2,rfl,h2,h3⟩:=q;have hs:(r::rs).length * s=s+rs.length * s:=by simp[Nat.add_mul];omega
  rw[hs] at e;refine⟨h1,N1,N2,rfl,AY ?_ h2,Fv ?_ h3⟩
  ·rw[h1];have:=congrArg (List.take s) e;simpa[List.take_take,Nat.min_eq_left] using this
  ·have:=congrArg (List.drop s) e;simpa[List.drop_take] using this
def mD{H:Heap}{h:View}{s:Nat}:∀{a b:List Row} {cs:List Value} {N:List Nat},cO H h s (a++b) cs N↔∃N1 N2,N=N1++N2/\cO H h s a cs N1/\cO H h s b (cs.drop (a.length * s)) N2
 |[],b,cs,N=>by
  simp only[List.nil_append,cO,zln,Nat.zero_mul,List.drop_zero];constructor
  ·intro q;exact⟨[],N,rfl,rfl,q⟩
  ·rintro⟨N1,N2,rfl,rfl,q⟩;simpa using q
 |x::a,b,cs,N=>by
  have hs:(x::a).length * s=s+a.length * s:=by simp[Nat.add_mul];omega
  simp only[WI,cO,hs];constructor
  ·rintro⟨h0,N1,N2,rfl,h1,h2⟩;obtain⟨N3,N4,rfl,h3,h4⟩:=mD.1 h2;exact⟨N1++N3,N4,by simp,⟨h0,N1,N3,rfl,h1,h3⟩,by simpa using h4⟩
  ·rintro⟨N1,N2,rfl,⟨h0,N3,N4,rfl,h1,h3⟩,h4⟩;exact⟨h0,N3,N4++N2,by simp,h1,mD.2 ⟨N4,N2,rfl,h3,by simpa using h4⟩⟩
def BP{h:View}:∀{r:Row} {cs cs':List Value},cs.take r.length=cs'.take r.length->dY h r cs->dY h r cs'
 |[],_,_,_,_=>trivial
 |x::r,cs,cs',e,⟨v,cs1,e1,h1,h2⟩=>by
  subst e1;cases cs' with
  |nil=>simp at e
  |cons v' alV=>simp only[OL,List.take_succ_cons,List.cons.injEq] at e;obtain⟨rfl,e⟩:=e;exact⟨v,alV,rfl,h1,BP e h2⟩
def sV{h:View}:∀{a b:Row} {cs:List Value},dY h (a++b) cs↔dY h a cs/\dY h b (cs.drop a.length)
 |[],b,cs=>by simp[dY]
 |x::a,b,cs=>by
  simp only[WI,dY];constructor
  ·rintro⟨v,cs',rfl,h1,h2⟩;obtain⟨h3,h4⟩:=sV.1 h2;exact⟨⟨v,cs',rfl,h1,h3⟩,by simpa using h4⟩
  ·rintro⟨⟨v,cs',rfl,h1,h3⟩,h4⟩;exact⟨v,cs',rfl,h1,sV.2 ⟨h3,by simpa using h4⟩⟩
def Oh{h:View}:∀{r:Row} {cs:List Value},dY h r cs->r.length<=cs.length
 |[],_,_=>by simp
 |x::r,cs,⟨v,cs',e,_,h2⟩=>by subst e;have:=Oh h2;simp;omega
def Uz{h:View}{row xs:Row}{cs gs:List Value}{o:Nat}(q:dY h row cs)(q1:dY h xs gs)(hl:xs.length=gs.length)(ho:o+xs.length<=row.length):dY h (splice row o xs) (splice cs o gs):=by
 have hrow:row=row.take o++((row.drop o).take xs.length++row.drop (o+xs.length)):=by rw[<-List.drop_drop,List.take_append_drop,List.take_append_drop]
 have hcl:=Oh q;rw[hrow] at q;obtain⟨qa,qb⟩:=sV.1 q;obtain⟨qc,qd⟩:=sV.1 qb;have l1:(row.take o).length=o:=by simp;omega
 have l2:((row.drop o).take xs.length).length=xs.length:=by simp;omega
 rw[l1,List.drop_drop,l2] at qd;have e:splice row o xs=row.take o++(xs++row.drop (o+xs.length)):=by simp[splice]
 rw[e];refine sV.2 ⟨?_, ?_⟩
 ·refine BP ?_ qa;rw[l1];simp only[splice,BD];rw[List.take_append_of_le_length (by simp;omega)];rw[List.take_take];congr 1;omega
 ·rw[l1];have hd:(splice cs o gs).drop o=gs++cs.drop (o+gs.length):=by
   simp only[splice,BD];rw[List.drop_append_of_le_length (by simp;omega)];have:(cs.take o).drop o=[]:=by simp
   rw[this];rfl
  rw[hd];refine sV.2 ⟨BP (by rw[hl];simp) q1, ?_⟩;rw[hl];rw[hl] at qd;simpa using qd
def kF{h:View}{s:Nat}:∀{rs:List Row} {cs cs':List Value},cs.take (rs.length * s)=cs'.take (rs.length * s)->dD h s rs cs->dD h s rs cs'
 |[],_,_,_,_=>trivial
 |r::rs,cs,cs',e,⟨h1,h2,h3⟩=>by
  have hs:(r::rs).length * s=s+rs.length * s:=by simp[Nat.add_mul];omega
  rw[hs] at e;refine⟨h1,BP ?_ h2,kF ?_ h3⟩
  ·rw[h1];have:=congrArg (List.take s) e;simpa[List.take_take,Nat.min_eq_left] using this
  ·have:=congrArg (List.drop s) e;simpa[List.drop_take] using this
def qj{h:View}{s:Nat}:∀{a b:List Row} {cs:List Value},dD h s (a++b) cs↔dD h s a cs/\dD h s b (cs.drop (a.length * s))
 |[],b,cs=>by simp[dD]
 |x::a,b,cs=>by
  have hs:(x::a).length * s=s+a.length * s:=by simp[Nat.add_mul];omega
  simp only[WI,dD,hs];rw[qj,List.drop_drop];constructor
  ·rintro⟨h0,h1,h2,h3⟩;exact⟨⟨h0,h1,h2⟩,h3⟩
  ·rintro⟨⟨h0,h1,h2⟩,h3⟩;exact⟨h0,h1,h2,h3⟩
end
end Go.Vm
namespace Go.Vm
open Go
section
variable {base:Nat} {U:Nat->Prop} {M0:List Nat} {w0 w w':World} {m m':Mem} {G G':GS} {P:Program}
def uO{α:Type}{l:List α}{i:Nat}{a b:α}(h:l[i]? =some a):l.set i b=l.take i++(b::l.drop (i+1))/\l=l.take i++(a::l.drop (i+1)):=by
 have hi:=(FK.1 h).1;have ha:=(FK.1 h).2;refine⟨?_, ?_⟩
 ·rw[List.set_eq_take_append_cons_drop,if_pos hi]
 ·rw[<-ha,List.getElem_cons_drop,List.take_append_drop]
def abQ{H:Heap}{h:View}{s i o:Nat}{rows:List Row}{row xs:Row}{cs gs:List Value}{N N1:List Nat}(q:cO H h s rows cs N)(hi:rows[i]? =some row)(q1:dF H h xs gs N1)(hl:xs.length=gs.length)(ho:o+xs.length<=s):
  ∃N' Dr,cO H h s (rows.set i (splice row o xs)) (splice cs (i * s+o) gs) N'/\(N'++Dr).Perm (N++N1):=by
 obtain⟨e1,e2⟩:=uO (b:=splice row o xs) hi;have hil:=(FK.1 hi).1;rw[e2] at q;obtain⟨Na,Nb,rfl,qa,qb⟩:=mD.1 q;have l1:(rows.take i).length=i:=by simp;omega
 rw[l1] at qb;simp only[cO] at qb;obtain⟨h0,Nc,Nd,rfl,qc,qd⟩:=qb;have hcl:=Uy qc;simp only[List.length_drop] at hcl;obtain⟨N',Dr,qe,hp⟩:=YP (o:=o) qc q1 hl au;have abR:(splice row o xs).length=s:=by rw[rO (l:=row) (xs:=xs) (o:=o) au];exact h0
 have his:i * s<=cs.length:=by
  rcases Nat.eq_zero_or_pos s with e|e
  ·rw[e];simp
  ·omega
 refine⟨Na++(N'++Nd),Dr, ?_, ?_⟩
 ·rw[e1];refine mD.2 ⟨Na,N'++Nd,rfl, ?_, ?_⟩
  ·refine Fv ?_ qa;rw[l1];simp only[splice,BD];rw[List.take_append_of_le_length (by simp;omega),List.take_take];congr 1;omega
  ·rw[l1];have hd:(splice cs (i * s+o) gs).drop (i * s)=splice (cs.drop (i * s)) o gs:=by simp only[splice];rw[BD,List.drop_append_of_le_length (by simp;omega),List.drop_take,List.drop_drop];rw[show i * s+o - i * s=o from by omega,BD,Nat.add_assoc]
   simp only[cO,hd];refine⟨abR,N',Nd,rfl,qe, ?_⟩;have hd2:(splice (cs.drop (i * s)) o gs).drop s=(cs.drop (i * s)).drop s:=by simp only[splice];rw[List.drop_append,List.drop_eq_nil_of_le (by simp;omega)];simp only[List.nil_append,List.drop_drop,ZP,MW,List.length_drop];congr 1;omega
   rw[hd2];exact qd
 ·simp only[BD];refine List.Perm.append_left Na ?_;have h1:(N'++(Nd++Dr)).Perm (N'++(Dr++Nd)):=List.Perm.append_left N' List.perm_append_comm;have h2:((N'++Dr)++Nd).Perm ((Nc++N1)++Nd):=List.Perm.append_right Nd hp;have h3:(Nc++(N1++Nd)).Perm (Nc++(Nd++N1)):=List.Perm.append_left Nc List.perm_append_comm;have h2':(N'++(Dr++Nd)).Perm (Nc++(N1++Nd)):=by simpa using h2
  exact h1.trans (h2'.trans h3)
def YQ{h:View}{s i o:Nat}{rows:List Row}{row xs:Row}{cs gs:List Value}(q:dD h s rows cs)(hi:rows[i]? =some row)(q1:dY h xs gs)(hl:xs.length=gs.length)(ho:o+xs.length<=s):
  dD h s (rows.set i (splice row o xs)) (splice cs (i * s+o) gs):=by
 obtain⟨e1,e2⟩:=uO (b:=splice row o xs) hi;have hil:=(FK.1 hi).1;rw[e2] at q;obtain⟨qa,qb⟩:=qj.1 q;have l1:(rows.take i).length=i:=by simp;omega
 rw[l1] at qb;obtain⟨h0,qc,qd⟩:=qb;have hcl:=Oh qc;simp only[List.length_drop] at hcl;have qe:=Uz (o:=o) qc q1 hl au;have abR:(splice row o xs).length=s:=by rw[rO (l:=row) (xs:=xs) (o:=o) au];exact h0
 have his:i * s<=cs.length:=by
  rcases Nat.eq_zero_or_pos s with e|e
  ·rw[e];simp
  ·omega
 rw[e1];refine qj.2 ⟨?_, ?_⟩
 ·refine kF ?_ qa;rw[l1];simp only[splice,BD];rw[List.take_append_of_le_length (by simp;omega),List.take_take];congr 1;omega
 ·rw[l1];have hd:(splice cs (i * s+o) gs).drop (i * s)=splice (cs.drop (i * s)) o gs:=by simp only[splice];rw[BD,List.drop_append_of_le_length (by simp;omega),List.drop_take,List.drop_drop];rw[show i * s+o - i * s=o from by omega,BD,Nat.add_assoc]
  rw[hd];refine⟨abR,qe, ?_⟩;have hd2:(splice (cs.drop (i * s)) o gs).drop s=(cs.drop (i * s)).drop s:=by simp only[splice];rw[List.drop_append,List.drop_eq_nil_of_le (by simp;omega)];simp only[List.nil_append,List.drop_drop,ZP,MW,List.length_drop];congr 1;omega
  rw[hd2];exact qd
def At.took(hA:At base U M0 w0 w m G){N:List Nat}(ht:Bz base U w m G m' G' N):G'.E=N/\G'.out=[]/\Fr M0 w0 w G':=
 ⟨by rw[ht.E,hA.E];rfl,ht.out.trans hA.out,hA.fr.less ht.le.ex⟩
def TD(k:Nat)(c c':Cell):∀m:Mem,put k c (put k c' m)=put k c m
 |[]=>by simp[put]
 |(j,y)::m=>by
  have hk:Nat.beq k k=true:=Nat.beq_refl k
  by_cases h:k=j
  ·subst h;simp[put]
  ·have hb:Nat.beq k j=false:=lT h;cases hl:Nat.blt k j with
   |true=>simp[put,hb,hl]
   |false=>simp[put,hb,hl,TD k c c' m]
def At.settle(hA:At base U M0 w0 w m G){r:Nat}{T:TypeId}{x:V}(hc:get r m=some (.box T [x])):∃G',Nx base U M0 w0 w m G w (put r (.jM T x) m) G':=by
 have hro:r ∉ G.out:=by rw[hA.out];simp
 have hle:sF G.μ m G.μ (put r (.jM T x) m):=qg (λ_ _=>rfl) (λc h=>by rw[hc] at h;cases h;exact rfl);obtain⟨b,a,e1,e2,e3,e4⟩:=hA.ok.cell r _ hc hro;have hb:b∈G.F r:=by rw[e4];simp
 obtain⟨y,ys,ea,e5,e6⟩:=jl e3;have h1:=hA.ok.set r (.jM T x) G.μ [] G.E G.out (by simpa using hA.ok.Ug) (by simp;exact λb hb=> .inr hb) hle (λ_ _=>rfl) (λ_ _=>Iff.rfl) (λ_=>rfl)
  (λhv _=>by
   refine⟨rfl,b,y,e1, ?_,pY hle hv _ _ e5⟩;refine yV (w:=w) (N:=[b]) (λb' hb'=> ?_) b (by simp) a T (0,0) e2 0 y (by rw[ea];rfl);simp only[List.mem_singleton] at hb';subst hb';refine⟨(hA.ok.lt _ (.inr ⟨r,hb⟩)).2.2, ?_⟩;rintro(hE|⟨k,hk⟩)
   ·exact hA.ok.OM r _ hb hE
   ·by_cases e:k=r
    ·subst e;simp at hk
    ·rw[dM _ e] at hk;exact hA.ok.dj r k (Ne.symm e) _ hb hk)
 exact⟨_,hA.still h1.1 h1.2 hA.out⟩
def afs{off:Nat}{cs:List V}{x:V}(h:kept off cs x=true):off=0/\cs=[.undef]/\∃r o,x=.ptr r o:=by
 unfold kept at h;split at h
 ·exact⟨rfl,rfl,_,_,rfl⟩
 ·cases h
def adW(hA:At base U M0 w0 w m G){t:TypeId}{a x:V}{ga gx:Value}(ha:aC G.μ m (Gh U w G) a ga)(hx:aC G.μ m (Gh U w G) x gx){u:Unit}{l l':Log}(h:(abz P t a x).run m l=some (u,m',l')):
  ∃w' G',(Instr.storeAt t ga gx).run P w=.ok () w'/\Nx base U M0 w0 w m G w' m' G':=by
 simp only[abz] at h;replace h:=ah h;obtain⟨_,m1,l1,h1,h⟩:=h;obtain⟨hok,rfl,rfl⟩:=bG h1;replace h:=ah h;obtain⟨_,m1,l1,h1,h⟩:=h;obtain⟨hlen,rfl,rfl⟩:=bG h1;replace h:=ah h;obtain⟨_,m1,l1,h1,h⟩:=h;obtain⟨hone,rfl,rfl⟩:=bG h1;have hlen:=lq hlen;obtain⟨hxs,hx1⟩:=cells_ok hone hx;have hgl:gx.cells.size=iM P t:=by rw[<-hlen,<-eP hxs,Array.length_toList]
 cases a with
 |ptr r off=>
  simp only at h;replace h:=ah h;obtain⟨c,m2,l2,h2,h⟩:=h;rw[jV] at h2;cases h2;cases hc:get r m1 with
  |none=>rw[hc] at h;exact(ak h).elim
  |some c=>
   rw[hc] at h;cases c with
   |arr _ _ _ _ _=>exact(ak h).elim
   |dead=>exact(ak h).elim
   |xk _ _ _=>exact(ak h).elim
   |jM _ _=>exact(ak h).elim
   |jB _ _ _ _ _=>exact(ak h).elim
   |box T cs=>
    simp only at h;replace h:=ah h;obtain⟨_,m2,l2,h2,h⟩:=h;obtain⟨hfit,rfl,rfl⟩:=bG h2;simp only[aC,hc] at ha;obtain⟨_,b,hμ,rfl⟩:=ha;obtain⟨b',arr,e1,e2,e3,e4⟩:=hA.ok.cell r _ hc (by rw[hA.out];simp);rw[hμ] at e1;cases e1;have hal:arr.size=cs.length:=by simpa using eP e3
    have hfit:=Nat.le_of_ble_eq_true hfit;have hrun:=KU (P:=P) hok e2 hgl (off:=off) au hx1;have hb:b∈G.F r:=by rw[e4];simp
    have hnx:=hA.rewrite (c':=.box T (splice cs off x.cells)) (w':=w.setRow b (splice arr.toList off gx.cells.toList).toArray) (μ':=G.μ) (N:=[b]) hc (Fq hb) (by simp) (λk hk=>by
     simp at hk;subst hk;refine⟨.inl hb, ?_⟩;have:=(hA.ok.lt _ (.inr ⟨r,hb⟩)).1;simpa[World.setRow] using this) (λ_ _=>rfl) ⟨rfl,rfl⟩ (λh' hv hml=>by
     refine⟨b,_,hμ,setRow_heap w b arr _ T (0,0) e2, ?_,rfl⟩;have:=JG off e3 hxs;simpa using kR hml hv _ _ this)
    cases hkp:kept off cs x with
    |false=>rw[hkp] at h;simp only[nS,dG,eH] at h;obtain⟨_,rfl,_⟩:=h;exact⟨_,_,hrun,hnx⟩
    |true=>rw[hkp] at h;simp only[nS,dG,eH] at h;obtain⟨_,rfl,_⟩:=h;obtain⟨rfl,rfl,r',o',rfl⟩:=afs hkp;have hsp:splice [V.undef] 0 (V.ptr r' o').cells=[V.ptr r' o']:=rfl;rw[hsp] at hnx;obtain⟨G',hnx2⟩:=hnx.at_.settle (r:=r) (T:=T) (x:=.ptr r' o') (dA _ _ _);rw[TD] at hnx2;exact⟨_,_,hrun,hnx.trans hnx2⟩
 |lI r ver i off=>
  simp only at h;replace h:=ah h;obtain⟨xs,m2,l2,h2,h⟩:=h;obtain⟨G1,N1,t1,hrow,hxl⟩:=GU hA.ok hxs hA.out h2;obtain⟨hE1,ho1,Pq⟩:=hA.took t1;replace h:=ah h;obtain⟨c,m3,l3,h3,h⟩:=h;rw[jV] at h3;cases h3;replace ha:=t1.le.aC ha;cases hc:get r m2 with
  |none=>rw[hc] at h;exact(ak h).elim
  |some c=>
   rw[hc] at h;cases c with
   |box _ _=>exact(ak h).elim
   |dead=>exact(ak h).elim
   |xk _ _ _=>exact(ak h).elim
   |jM _ _=>exact(ak h).elim
   |jB dP s rows i' off'=>
    simp only at h;replace h:=ah h;obtain⟨_,m4,l4,h4,h⟩:=h;obtain⟨hb,rfl,rfl⟩:=bG h4;simp only[su] at hb;obtain⟨hb1,hb2,hb3,hb4⟩:=hb;have hb1:=lq hb1;have hb2:=lq hb2;have hb3:=lq hb3;subst hb1 hb2 hb3;obtain⟨x1,rfl⟩:=List.length_eq_one_iff.1 (lq hb4);replace h:=ah h;obtain⟨row,m4,l4,h4,h⟩:=h;obtain⟨hrw,rfl,rfl⟩:=dn h4;simp only[nS,dG,eH] at h;obtain⟨_,rfl,_⟩:=h;simp only[aC,hc] at ha;obtain⟨b,n,cap,hμ,rfl⟩:=ha.2.2 trivial;obtain⟨b',cap',cs,T,g0,row',Na,Nb,k1,k2,k3,k4,k5,k6,k7,k8,k9,k10⟩:=t1.ok.cell r _ hc (by rw[ho1];simp);rw[hμ] at k1;simp only[Value.slice.injEq,dG,Addr.mk.injEq] at k1;obtain⟨⟨rfl,_⟩,rfl,rfl⟩:=k1;rw[hrw] at k6;cases k6;have WH:b∈G1.F r:=by rw[k10];simp
    obtain⟨g1,gs,P1,P2,hgs,hN,hq1,hq2⟩:=vM hrow;simp only[dF] at hq2;subst hq2;have hg1:gx.cells.toList=[g1]:=by
     have hl0:gx.cells.toList.length=1:=by rw[eP hxs,<-hxl];rfl
     rw[hgs] at hl0|-;cases gs with
     |nil=>rfl
     |cons _ _=>simp at hl0
    rw[List.append_nil] at hN;subst hN;have hlt:i * s+off<cs.size:=by simpa using(FK.1 k5).1
    have hsz:i * s+off+gx.cells.size<=cs.size:=by
     have:gx.cells.size=1:=by rw[<-Array.length_toList,hg1];rfl
     omega
    have hrun:=KU (P:=P) hok k3 hgl (off:=i * s+off) hsz hx1;have hh:=setRow_heap w b cs (splice cs.toList (i * s+off) gx.cells.toList).toArray T (0,0) k3;have hsp:splice cs.toList (i * s+off) gx.cells.toList=cs.toList.set (i * s+off) g1:=by rw[hg1,splice,List.set_eq_take_append_cons_drop,if_pos (by simpa using hlt)];simp
    have hoth:∀k,k≠b->aX (w.setRow b (splice cs.toList (i * s+off) gx.cells.toList).toArray) k=aX w k:=λk hk=>setRow_other w b k _ hk
    have hnd:=t1.ok.nd r;rw[k10] at hnd;have hE:∀k,k∈N1->k∈G1.E:=λk hk=>by rw[hE1];exact hk
    have hnP:N1.Nodup:=by have:=t1.ok.Ug;rwa [hE1] at this
    have hdis:∀k,k∈N1->k≠b/\k ∉ Na/\k ∉ Nb:=λk hk=>by
     have h1:=λhx=>t1.ok.OM r k hx (hE k hk)
     rw[k10] at h1;simp only[List.mem_cons,List.mem_append] at h1;exact⟨λe=>h1 (.inl e),λe=>h1 (.inr (.inl e)),λe=>h1 (.inr (.inr e))⟩
    refine⟨_,_,hrun,Nx.after t1.le (t1.ok.rewrite ho1 Pq (μ':=G1.μ) (N:=b::(Na++N1++Nb)) hc (Fq WH) ?_ ?_ (λ_ _=>rfl) ⟨rfl,Nat.le_refl _,λ_=>⟨rfl,rfl⟩⟩ ?_)⟩
    ·have h2:=List.nodup_cons.1 hnd;have h3:=List.nodup_append.1 h2.2;refine List.nodup_cons.2 ⟨?_,List.nodup_append.2 ⟨List.nodup_append.2 ⟨h3.1,hnP,λx hx y hy e=>(hdis y hy).2.1 (e ▸ hx)⟩,h3.2.1,λx hx y hy e=> ?_⟩⟩
     ·simp only[List.mem_append,not_or] at h2|-;exact⟨⟨h2.1.1,λhx=>(hdis b hx).1 rfl⟩,h2.1.2⟩
     ·rcases List.mem_append.1 hx with hx|hx
      ·exact h3.2.2 x hx y hy e
      ·exact(hdis x hx).2.2 (e ▸ hy)
    ·intro k hk;have hsz':(w.setRow b (splice cs.toList (i * s+off) gx.cells.toList).toArray).heap.size=w.heap.size:=by simp[World.setRow]
     rw[hsz']
     by_cases hkP:k∈N1
     ·exact⟨.inr (.inl (hE k hkP)),(t1.ok.lt _ (.inl (hE k hkP))).1⟩
     ·have:k∈G1.F r:=by
       rw[k10];simp only[List.mem_cons,List.mem_append] at hk|-;rcases hk with h|(h|h)|h
       ·exact .inl h
       ·exact .inr (.inl h)
       ·exact absurd h hkP
       ·exact .inr (.inr h)
      exact⟨.inl this,(t1.ok.lt _ (.inr ⟨r,this⟩)).1⟩
    ·intro h' hv hml _;have hbn:=(List.nodup_cons.1 hnd).1;have ho:=k8 (aX (w.setRow b (splice cs.toList (i * s+off) gx.cells.toList).toArray)) h' x1 g1 N1 hv (λk hk=>hoth k (λe=>hbn (e ▸ hk)))
      (Tv hv _ _ _ (λk hk=>hoth k (hdis k hk).1) hq1)
     refine .inr ⟨b,cap,_,T,Na++N1++Nb, ?_, ?_,hh, ?_, ?_,rfl⟩
     ·rw[hμ];simp
     ·simpa using k2
     ·rw[hsp];simpa using k4
     ·rw[hsp] at ho|-;exact ho
   |arr fz fl dP s rows=>
    cases fz with
    |true=>exact(ak h).elim
    |false=>
    simp only at h;replace h:=ah h;obtain⟨_,m4,l4,h4,h⟩:=h;obtain⟨hb,rfl,rfl⟩:=bG h4;have hb:=lq hb;subst hb;replace h:=ah h;obtain⟨_,m4,l4,h4,h⟩:=h;obtain⟨hfit,rfl,rfl⟩:=bG h4;have hfit:=Nat.le_of_ble_eq_true hfit;replace h:=ah h;obtain⟨row,m4,l4,h4,h⟩:=h;obtain⟨hrw,rfl,rfl⟩:=dn h4;simp only[nS,dG,eH] at h;obtain⟨_,rfl,_⟩:=h;simp only[aC,hc] at ha;obtain⟨b,n,cap,hμ,rfl⟩:=ha.2.2 trivial;have hcell:=t1.ok.cell r _ hc (by rw[ho1];simp);have hne:rows≠[]:=by intro e;subst e;simp at hrw
    have hil:=(FK.1 hrw).1;simp only[iT] at hcell;rcases hcell with⟨e,_,_⟩|⟨b',cap',cs,T,N',k1,k2,k3,k4,k5,k6⟩
    ·exact absurd e hne
    rw[hμ] at k1;simp only[Value.slice.injEq,dG,Addr.mk.injEq] at k1;obtain⟨⟨rfl,_⟩,rfl,rfl⟩:=k1;have WH:b∈G1.F r:=by rw[k6];simp
    have aft:xs.length=gx.cells.toList.length:=by rw[hxl,eP hxs]
    have hsz:i * s+off+gx.cells.size<=cs.size:=by rw[k4,hgl];have:(i+1) * s<=cap * s:=Nat.mul_le_mul_right s au;rw[Nat.add_mul] at this;omega
    have hrun:=KU (P:=P) hok k3 hgl (off:=i * s+off) hsz hx1;have hh:=setRow_heap w b cs (splice cs.toList (i * s+off) gx.cells.toList).toArray T (0,0) k3;have aoY:off+xs.length<=s:=by rw[aft,Array.length_toList,hgl];exact hfit
    have aoZ:(splice cs.toList (i * s+off) gx.cells.toList).length=cs.size:=by rw[rO (by simpa using hsz)];simp
    have key:∃N2,N2.Nodup/\(fl=true->N2=[])/\(∀k,k∈N2->k∈G1.F r\/k∈G1.E)/\∀h':View,(Gh U w G1).le h'->(fl=true->NW h' (aX w) N1)->KD (aX (w.setRow b (splice cs.toList (i * s+off) gx.cells.toList).toArray)) h' fl s (rows.set i (splice row off xs)) (G1.μ r) (b::N2)/\b ∉ N2:=by
     have hoth:∀k,k≠b->aX (w.setRow b (splice cs.toList (i * s+off) gx.cells.toList).toArray) k=aX w k:=λk hk=>setRow_other w b k _ hk
     cases fl with
     |true=>
      refine⟨[],by simp,λ_=>rfl,by simp,λh' hv hs=>⟨.inr ⟨b,cap,_,T,[], ?_, ?_,hh, ?_,⟨?_,rfl⟩,rfl⟩,by simp⟩⟩
      ·rw[hμ];simp
      ·simpa using k2
      ·simpa[aoZ] using k4
      ·have q1:dY h' xs gx.cells.toList:=NY hv xs _ N1 (hs rfl) hrow;simpa using YQ (jv hv s rows _ k5.1) hrw q1 aft aoY
     |false=>
      obtain⟨N2,Dr,q1,hp⟩:=abQ k5 hrw hrow aft aoY;have alW:(N'++N1).Nodup:=by have h1:=t1.ok.nd r;rw[k6] at h1;have h2:=t1.ok.Ug;rw[hE1] at h2;exact List.nodup_append.2 ⟨(List.nodup_cons.1 h1).2,h2,λx hx y hy e=>t1.ok.OM r x (by rw[k6];simp[hx]) (by rw[hE1,e];exact hy)⟩
      have hnd:=List.nodup_append.1 (hp.nodup_iff.2 alW);have hmem:∀k,k∈N2->k∈N'\/k∈N1:=λk hk=>by simpa using hp.mem_iff.1 (List.mem_append_left Dr hk)
      have hbn:b ∉ N2:=by
       intro hb2;rcases hmem b hb2 with h|h
       ·have:=t1.ok.nd r;rw[k6] at this;exact(List.nodup_cons.1 this).1 h
       ·exact t1.ok.OM r b WH (by rw[hE1];exact h)
      refine⟨N2,hnd.1,(λe=>by cases e),λk hk=> ?_,λh' hv _=>⟨.inr ⟨b,cap,_,T,N2, ?_, ?_,hh, ?_, ?_,rfl⟩,hbn⟩⟩
      ·rcases hmem k hk with h|h
       ·left;rw[k6];simp[h]
       ·right;rw[hE1];exact h
      ·rw[hμ];simp
      ·simpa using k2
      ·simpa[aoZ] using k4
      ·have:=mY hv s _ _ N2 (λk hk=>hoth k (λe=>hbn (e ▸ hk))) q1;simpa using this
    obtain⟨N2,hN2,atQ,atS,FT⟩:=key;refine⟨_,_,hrun,Nx.after t1.le (t1.ok.rewrite ho1 Pq (μ':=G1.μ) (N:=b::N2) hc (Fq WH) ?_ ?_ (λ_ _=>rfl) ⟨Nat.le_refl _,rfl,λ_=>⟨rfl,rfl⟩⟩ ?_)⟩
    ·exact List.nodup_cons.2 ⟨(FT (full w) (kS _ _ _) (λ_=>Xm)).2,hN2⟩
    ·intro k hk;have hsz':(w.setRow b (splice cs.toList (i * s+off) gx.cells.toList).toArray).heap.size=w.heap.size:=by simp[World.setRow]
     rw[hsz'];simp only[List.mem_cons] at hk;rcases hk with rfl|hk
     ·exact⟨.inl WH,(t1.ok.lt _ (.inr ⟨r,WH⟩)).1⟩
     ·rcases atS k hk with h|h
      ·exact⟨.inl h,(t1.ok.lt _ (.inr ⟨r,h⟩)).1⟩
      ·exact⟨.inr (.inl h),(t1.ok.lt _ (.inl h)).1⟩
    ·intro h' hv hml ahC;refine(FT h' hv (λhfl=> ?_)).1;intro k hk;have hkE:k∈G1.E:=by rw[hE1];exact hk
     refine ahC k hkE ?_ k (by simp);rw[atQ hfl];simp only[List.mem_singleton];intro e;subst e;exact t1.ok.OM r _ WH hkE
 |d _=>exact(ak h).elim
 |nil _=>exact(ak h).elim
 |own _ _=>exact(ak h).elim
 |lS _ _=>exact(ak h).elim
 |sG _=>exact(ak h).elim
 |clo _ _ _=>exact(ak h).elim
 |agg _=>exact(ak h).elim
 |Gz _=>exact(ak h).elim
 |undef=>exact(ak h).elim
end
end Go.Vm
namespace Go.Vm
open Go
section
variable {base:Nat} {U:Nat->Prop} {M0:List Nat} {w0 w w':World} {m m':Mem} {G G':GS} {P:Program}
def uN.fresh(hg:uN base U w m G)(ho:G.out=[])(hfr:Fr M0 w0 w G){k:Nat}{c':Cell}{gv:Value}{N:List Nat}(hn:get k m=none)(hk:Keep [] w w')(hN:N.Nodup)
  (hNs:∀b,b∈N->(b∈G.E\/w.heap.size<=b)/\b<w'.heap.size)
  (hcell:∀h':View,(Gh U w G).le h'->sF G.μ m (O8 G.μ k gv) (put k c' m)->(∀j,j∈G.E->j ∉ N->NW h' (aX w) [j])->iT (O8 G.μ k gv) (put k c' m) (aX w') h' k c' N):
  Nx base U M0 w0 w m G w' (put k c' m) ⟨O8 G.μ k gv,Dy G.F k N,[],[]⟩:=by
 have hk':Keep G.E w w':=⟨hk.os,hk.tape,hk.output,hk.size,λb hb _=>hk.block b hb (by simp)⟩
 obtain⟨q1,q2⟩:=uN.world hg hk' (E':=N) hN hNs;have hμ:∀j,j≠k->O8 G.μ k gv j=G.μ j:=λj e=>wR gv e
 have hml:sF G.μ m (O8 G.μ k gv) (put k c' m):=qg hμ (λc0 h0=>by rw[hn] at h0;cases h0);have hFk:G.F k=[]:=hg.none_ k hn;have hset:=uN.set (U:=U) (w:=w') q1 k c' (O8 G.μ k gv) N [] [] (by simpa using hN) (by simp;exact λb hb=> .inr hb) hml hμ (λj hj=>by simp[ho]) (by simp)
  (λhv _=>hcell _ (q2.trans' hv) hml (λj hjE hjN b hb cs t fr hH o v hv=>by
   have hb:=List.mem_singleton.1 hb;rw[<-hb] at hjE hjN;have hlt:=hg.lt b (.inl hjE);have hsame:aX w' b=aX w b:=hk.block b hlt.1 (by simp);refine yV (w:=w') (N:=[b]) (λx hx=> ?_) b (by simp) cs t fr (hsame.trans hH) o v hv;rw[List.mem_singleton.1 hx];refine⟨hlt.2.2, ?_⟩;rintro(h|⟨i,h⟩)
   ·simp at h
   ·by_cases e:i=k
    ·subst e;rw[lK] at h;exact hjN h
    ·rw[dM _ e] at h;exact hg.OM i b h hjE))
 obtain⟨s1,s2⟩:=hset;refine⟨s1,rfl,rfl,hml,q2.trans' s2.view, ?_⟩;refine⟨hfr.keep.trans hk (by simp), ?_⟩;rintro b (hb|⟨i,hb⟩)
 ·simp at hb
 ·by_cases e:i=k
  ·subst e;simp only[lK] at hb;rcases(hNs b hb).1 with h|h
   ·exact hfr.fr b (.inl h)
   ·exact .inr (Nat.le_trans hfr.keep.size h)
  ·simp only[dM _ e] at hb;exact hfr.fr b (.inr ⟨i,hb⟩)
def Jc{w1:World}{o:Obj}(h:w1.heap=w.heap):aX (w1.alloc o) w.heap.size=some o:=by have:=heap_alloc_new w1 o;rw[h] at this;exact this
def Xz(hA:At base U M0 w0 w m G){k:Nat}{T:TypeId}{cs:List V}{arr:Array Value}(hs:bD G.μ m (Gh U w G) cs arr.toList){u:Unit}{l l':Log}(h:(new k (.box T cs)).run m l=some (u,m',l')):
  ∃G',Nx base U M0 w0 w m G (w.alloc (.cells arr T)) m' G'/\aC G'.μ m' (Gh U (w.alloc (.cells arr T)) G') (.ptr k 0) (.pointer (some ⟨w.heap.size,0,none⟩)):=by
 obtain⟨hn,rfl⟩:=JE h;refine⟨_,hA.ok.fresh hA.out hA.fr (gv:=.pointer (some ⟨w.heap.size,0,none⟩)) (N:=[w.heap.size]) hn Og (by simp) (λb hb=>by simp at hb;subst hb;simp) (λh' hv hml _=> ?_), ?_⟩
 ·exact⟨w.heap.size,arr,by simp,Jc rfl,kR hml hv _ _ hs,rfl⟩
 ·simp[aC,dA,IB,afk]
def UA(hg:uN base U w m G)(ho:G.out=[])(hfr:Fr M0 w0 w G){w1:World}(hw1:w1.heap=w.heap)(hk1:Keep [] w w1){k:Nat}{fl:Bool}{s cap:Nat}{rows:List Row}{arr:Array Value}{T:TypeId}(hq:cO (aX w) (Gh U w G) s rows arr.toList G.E)
  (hcap:rows.length<=cap) (hsz:arr.size=cap * s) {u:Unit} {l l':Log} (h:(new k (.arr false fl 0 s rows)).run m l=some (u,m',l')):
  ∃G',Nx base U M0 w0 w m G (w1.alloc (.cells arr T)) m' G'/\aC G'.μ m' (Gh U (w1.alloc (.cells arr T)) G') (.own k 0) (.slice (some ⟨w.heap.size,0,none⟩) rows.length cap):=by
 obtain⟨hn,rfl⟩:=JE h;have hsize:(w1.alloc (.cells arr T)).heap.size=w.heap.size+1:=by rw[World.size_alloc,hw1]
 have hkeep:Keep [] w (w1.alloc (.cells arr T)):=hk1.trans (Og (M:=[])) (by simp);have hnE:w.heap.size ∉ G.E:=λhE=>by have:=(hg.lt _ (.inl hE)).1;omega
 have hnew:aX (w1.alloc (.cells arr T)) w.heap.size=some (.cells arr T (0,0)):=Jc hw1;refine⟨_,hg.fresh ho hfr (gv:=.slice (some ⟨w.heap.size,0,none⟩) rows.length cap) (N:=w.heap.size::(match fl with|true=>[]|false=>G.E)) hn hkeep ?_ ?_ ?_, ?_⟩
 ·cases fl with
  |true=>simp
  |false=>exact List.nodup_cons.2 ⟨hnE,hg.Ug⟩
 ·intro b hb;simp only[List.mem_cons] at hb;rcases hb with rfl|hb
  ·exact⟨.inr (Nat.le_refl _),by rw[hsize];omega⟩
  ·cases fl with
   |true=>simp at hb
   |false=>exact⟨.inl hb,by rw[hsize];have:=(hg.lt b (.inl hb)).1;omega⟩
 ·intro h' hv hml ahC;simp only[iT,pz];refine .inr ⟨w.heap.size,cap,arr,T,_,rfl,hcap,hnew,hsz, ?_,rfl⟩;cases fl with
  |true=>refine⟨yg hv s rows _ _ (λb hb=> ?_) hq,rfl⟩;refine ahC b hb ?_ b (by simp);simp only[List.mem_singleton];intro e;exact hnE (e ▸ hb)
  |false=>exact mY hv s rows _ _ (λb hb=>hkeep.block b (hg.lt b (.inl hb)).1 (by simp)) hq
 ·simp[aC,dA,IB,afk]
def JJ(off:Nat):∀(xs:List Value) (k:Nat) (cells:Array Value),off+k+xs.length<=cells.size->
  ((xs.zipIdx k).foldl (λcs (c,j)=>cs.setIfInBounds (off+j) c) cells).toList=splice cells.toList (off+k) xs
 |[],k,cells,h=>by simp[splice]
 |x::xs,k,cells,h=>by simp only[OL] at h;simp only[List.zipIdx_cons,List.foldl_cons];rw[JJ off xs (k+1) _ (by simp;omega)];have e:=list_seg_step cells.toList (off+k) x xs (by simp;omega);simpa[splice,Array.toList_setIfInBounds,Nat.add_assoc] using e
end
end Go.Vm
namespace Go.Vm
open Go
section
variable {base:Nat} {U:Nat->Prop} {M0:List Nat} {w0 w w':World} {m m':Mem} {G G':GS} {P:Program}
def x8(base:Nat)(U:Nat->Prop)(M0:List Nat)(w0 w:World)(m:Mem)(G:GS)(P:Program)(s:Sem Value)(v:V)(m':Mem):Prop:=
 ∃g w' G',s.run P w=.ok g w'/\Nx base U M0 w0 w m G w' m' G'/\aC G'.μ m' (Gh U w' G') v g
def x8.same(hA:At base U M0 w0 w m G){s:Sem Value}{g:Value}{v:V}(h:s.run P w=.ok g w)(hv:aC G.μ m (Gh U w G) v g):x8 base U M0 w0 w m G P s v m:=⟨g,w,G,h,hA.nx,hv⟩
def afu(hA:At base U M0 w0 w m G){T k:Nat}{z:List V}(hz:BH P T=some z){u:Unit}{l l':Log}(h:(new k (.box T z)).run m l=some (u,m',l')):
  x8 base U M0 w0 w m G P (Instr.alloc T true (.tuple #[])) (.ptr k 0) m':=by
 obtain⟨i,zv,hi,hzv,hs⟩:=DV (m:=m) (μ:=G.μ) (h:=Gh U w G) hz;obtain⟨G',hnx,FT⟩:=Xz hA hs h;refine⟨_,_,G', ?_,hnx,FT⟩;simp[Instr.alloc,zeroValue,typeInfo,hi,hzv,newVar,newRow]
def alX(hA:At base U M0 w0 w m G){T k:Nat}{v:V}{g:Value}(hv:aC G.μ m (Gh U w G) v g)(h1:v.cells.all one=true){u:Unit}{l l':Log}(h:(new k (.box T v.cells)).run m l=some (u,m',l')):
  x8 base U M0 w0 w m G P (Instr.box T g) (.ptr k 0) m':=by
 obtain⟨hs,_⟩:=cells_ok h1 hv;obtain⟨G',hnx,FT⟩:=Xz hA hs h;refine⟨_,_,G', ?_,hnx,FT⟩;simp[Instr.box,newVar,newRow]
def Rn:∀(fs:List Field),(fs.all λf=>match P.info? f.type with|some _=>true|none=>false)=true->
  ∃places,fs.mapM (λf=>(P.info? f.type).map λi=>(f.offset,i.size))=some places/\∀(j:Nat) f,fs[j]? =some f->places[j]? =some (f.offset,iM P f.type)
 |[],_=>⟨[],by simp,by simp⟩
 |f::fs,h=>by
  simp only[List.all_cons,su] at h;obtain⟨places,h1,h2⟩:=Rn fs h.2;cases hi:P.info? f.type with
  |none=>simp[hi] at h
  |some i=>
   refine⟨(f.offset,i.size)::places,by simp[List.mapM_cons,hi,h1], ?_⟩;intro j g hj;cases j with
   |zero=>simp at hj;subst hj;simp[iM,hi]
   |succ j=>simpa using h2 j g (by simpa using hj)
def Nj{T:TypeId}{fs:Array Field}(hu:P.underlying T=some (.struct fs)){place:Nat->Option (Nat×Nat)}(hp:∀(j:Nat) f,fs[j]? =some f->place j=some (f.offset,iM P f.type)){tm:iF}{a:Act}
  {μ:Nat->Value} {h:View}:∀(ps:List (Nat×Operand)) {m:Mem} (_:Po μ m h tm a) {cs:List V} {cells:Array Value} (_:bD μ m h cs cells.toList) {out:List V} {m':Mem} {l l':Log}
  (_:(nP P T tm ps cs).run m l=some (out,m',l')),m'=m/\∃r,Instr.fill place cells (ps.map λx=>(x.1,a.eval x.2))=some r/\bD μ m h out r.toList
 |[],m,hT,cs,cells,hs,out,m',l,l',hr=>by simp only[nP,run_pure,dG,eH] at hr;obtain⟨rfl,rfl,_⟩:=hr;exact⟨rfl,cells,rfl,hs⟩
 |(f,x)::ps,m,hT,cs,cells,hs,out,m',l,l',hr=>by
  simp only[nP] at hr;replace hr:=ah hr;obtain⟨⟨o,n,t⟩,m1,l1,h1,hr⟩:=hr;obtain⟨hf,rfl,rfl⟩:=dn h1;simp only at hr;replace hr:=ah hr;obtain⟨_,m2,l2,h2,hr⟩:=hr;obtain⟨hlen,rfl,rfl⟩:=bG h2;replace hr:=ah hr;obtain⟨_,m2,l2,h2,hr⟩:=hr;obtain⟨hone,rfl,rfl⟩:=bG h2;replace hr:=ah hr;obtain⟨_,m2,l2,h2,hr⟩:=hr;obtain⟨hfit,rfl,rfl⟩:=bG h2;have hlen:=lq hlen;have hfit:=Nat.le_of_ble_eq_true hfit;obtain⟨hv,hv1⟩:=cells_ok hone (Jb hT t x);have hgl:(a.eval x).cells.size=n:=by rw[<-hlen,<-eP hv,Array.length_toList]
  have hcl:cells.size=cs.length:=by rw[<-eP hs,Array.length_toList]
  have hpl:place f=some (o,n):=by
   unfold JA at hf;rw[hu] at hf;simp only at hf;cases hfd:fs[f]? with
   |none=>simp[hfd] at hf
   |some fd=>simp only[hfd,dG,eH] at hf;obtain⟨rfl,rfl,rfl⟩:=hf;exact hp f fd hfd
  have hsp:=JJ o (a.eval x).cells.toList 0 cells (by simp;omega);have hz:(a.eval x).cells.zipIdx.foldl (λcs (c,j)=>cs.setIfInBounds (o+j) c) cells=(splice cells.toList o (a.eval x).cells.toList).toArray:=by apply Array.ext';rw[<-Array.foldl_toList];simpa using hsp
  obtain⟨hm,r,hr1,hr2⟩:=Nj hu hp ps hT (cells:=(splice cells.toList o (a.eval x).cells.toList).toArray) (by simpa using JG o hs hv) hr;refine⟨hm,r, ?_,hr2⟩;simp only[QY,Instr.fill,hpl];rw[if_neg (by simp[hgl];omega),hz];exact hr1
def adX(hA:At base U M0 w0 w m G){tm:iF}{a:Act}(hT:Po G.μ m (Gh U w G) tm a){T:TypeId}{ps:Array (Nat×Operand)}{v:V}{l l':Log}(h:(YG P T tm ps.toList).run m l=some (v,m',l')):
  x8 base U M0 w0 w m G P (Instr.build T (ps.map λx=>(x.1,a.eval x.2))) v m':=by
 simp only[YG] at h;replace h:=ah h;obtain⟨_,m1,l1,h1,h⟩:=h;obtain⟨hok,rfl,rfl⟩:=bG h1;replace h:=ah h;obtain⟨z,m1,l1,h1,h⟩:=h;obtain⟨hz,rfl,rfl⟩:=dn h1;replace h:=ah h;obtain⟨cs,m2,l2,h2,h⟩:=h;simp only[run_pure,dG,eH] at h;obtain⟨rfl,rfl,_⟩:=h;obtain⟨i,zv,hi,hzv,hs⟩:=DV (m:=m1) (μ:=G.μ) (h:=Gh U w G) hz;unfold ZX at hok;cases hu:P.underlying T with
 |none=>simp[hu] at hok
 |some d=>
  rw[hu] at hok;cases d with
  |struct fs=>simp only at hok;obtain⟨places,hpl,hpg⟩:=Rn fs.toList hok;obtain⟨hm,r,hr1,hr2⟩:=Nj (place:=(places.toArray[·]?)) hu (λj f hj=>by simpa using hpg j f (by simpa using hj)) ps.toList hT hs h2;subst hm;refine x8.same hA (g:=.agg r) ?_ (by simp only[aC];exact⟨r,rfl,hr2⟩);refine run_build w T _ r ?_;unfold Program.built;simp only[hi,hu,hzv,hpl];simpa[Array.toList_map] using hr1
  |_=>simp at hok
def KY{e:TypeId}{size:Nat}(hsz:iM P e=size){tm:iF}{a:Act}
  {μ:Nat->Value} {h:View}:∀(ps:List (Nat×Operand)) {m:Mem} (_:Po μ m h tm a) {cs:List V} {cells:Array Value} (_:bD μ m h cs cells.toList) {out:List V} {m':Mem} {l l':Log}
  (_:(lu P e tm ps cs).run m l=some (out,m',l')),m'=m/\∃r,Instr.fill (λi=>some (i * size,size)) cells (ps.map λx=>(x.1,a.eval x.2))=some r/\bD μ m h out r.toList
 |[],m,hT,cs,cells,hs,out,m',l,l',hr=>by simp only[lu,run_pure,dG,eH] at hr;obtain⟨rfl,rfl,_⟩:=hr;exact⟨rfl,cells,rfl,hs⟩
 |(i,x)::ps,m,hT,cs,cells,hs,out,m',l,l',hr=>by
  simp only[lu] at hr;replace hr:=ah hr;obtain⟨_,m2,l2,h2,hr⟩:=hr;obtain⟨hlen,rfl,rfl⟩:=bG h2;replace hr:=ah hr;obtain⟨_,m2,l2,h2,hr⟩:=hr;obtain⟨hone,rfl,rfl⟩:=bG h2;replace hr:=ah hr;obtain⟨_,m2,l2,h2,hr⟩:=hr;obtain⟨hfit,rfl,rfl⟩:=bG h2;have hlen:=lq hlen;have hfit:=Nat.le_of_ble_eq_true hfit;rw[hsz] at hlen hfit hr;obtain⟨hv,hv1⟩:=cells_ok hone (Jb hT e x);have hgl:(a.eval x).cells.size=size:=by rw[<-hlen,<-eP hv,Array.length_toList]
  have hcl:cells.size=cs.length:=by rw[<-eP hs,Array.length_toList]
  have hsp:=JJ (i * size) (a.eval x).cells.toList 0 cells (by simp;omega);have hz:(a.eval x).cells.zipIdx.foldl (λcs (c,j)=>cs.setIfInBounds (i * size+j) c) cells=(splice cells.toList (i * size) (a.eval x).cells.toList).toArray:=by apply Array.ext';rw[<-Array.foldl_toList];simpa using hsp
  obtain⟨hm,r,hr1,hr2⟩:=KY hsz ps hT (cells:=(splice cells.toList (i * size) (a.eval x).cells.toList).toArray) (by simpa using JG (i * size) hs hv) hr;refine⟨hm,r, ?_,hr2⟩;simp only[QY,Instr.fill];rw[if_neg (by simp[hgl];omega),hz];exact hr1
def adY(hA:At base U M0 w0 w m G){tm:iF}{a:Act}(hT:Po G.μ m (Gh U w G) tm a){T:TypeId}{ps:Array (Nat×Operand)}{v:V}{l l':Log}(h:(YH P T tm ps.toList).run m l=some (v,m',l')):
  x8 base U M0 w0 w m G P (Instr.build T (ps.map λx=>(x.1,a.eval x.2))) v m':=by
 unfold YH at h;split at h
 ·rename_i n e har;unfold arT at har;cases hu:P.underlying T with
  |none=>simp[hu] at har
  |some d=>rw[hu] at har;cases d<;>simp at har;obtain⟨rfl,rfl⟩:=har;simp only[abG] at h;replace h:=ah h;obtain⟨_,m1,l1,h1,h⟩:=h;obtain⟨hok,rfl,rfl⟩:=bG h1;replace h:=ah h;obtain⟨z,m1,l1,h1,h⟩:=h;obtain⟨hz,rfl,rfl⟩:=dn h1;replace h:=ah h;obtain⟨cs,m2,l2,h2,h⟩:=h;simp only[run_pure,dG,eH] at h;obtain⟨rfl,rfl,_⟩:=h;obtain⟨i,zv,hi,hzv,hs⟩:=DV (m:=m1) (μ:=G.μ) (h:=Gh U w G) hz;obtain⟨d',hd'⟩:=qx hok;obtain⟨inf,wC⟩:=nO hd';obtain⟨hm,r,hr1,hr2⟩:=KY (wZ wC) ps.toList hT hs h2;subst hm;refine x8.same hA (g:=.agg r) ?_ (by simp only[aC];exact⟨r,rfl,hr2⟩);refine run_build w T _ r ?_;unfold Program.built;simp only[hi,hu,hzv,wC];simpa[Array.toList_map] using hr1
 ·exact adX hA hT h
def Nl{e:TypeId}{tm:iF}{a:Act}:∀(ps:List (Nat×Operand)) {m:Mem} {G:GS} {k:Nat} (_:uN base U w m G) (_:G.out=[]) (_:Po G.μ m (Gh U w G) tm a) {rows:List Row} {m':Mem} {l l':Log}
  (_:(nR P e tm k ps).run m l=some (rows,m',l')),∃G' N,Bz base U w m G m' G' N/\cO (aX w) (Gh U w G') (iM P e) rows ((ps.map λx=>a.eval x.2).flatMap λv=>v.cells.toList) N/\rows.length=ps.length/\
   (∀v∈ps.map (λx=>a.eval x.2),v.cells.size=iM P e)/\ps.map (λx=>(x.1,a.eval x.2))=((ps.map λx=>a.eval x.2).zipIdx k).map λx=>(x.2,x.1)
 |[],m,G,k,hg,ho,hT,rows,m',l,l',h=>by simp only[nR,run_pure,dG,eH] at h;obtain⟨rfl,rfl,_⟩:=h;exact⟨G,[],Bz.same hg,by simp[cO],rfl,by simp,by simp⟩
 |(i,x)::ps,m,G,k,hg,ho,hT,rows,m',l,l',h=>by
  simp only[nR] at h;replace h:=ah h;obtain⟨_,m1,l1,h1,h⟩:=h;obtain⟨hik,rfl,rfl⟩:=bG h1;have hik:=lq hik;subst hik;replace h:=ah h;obtain⟨_,m1,l1,h1,h⟩:=h;obtain⟨hlen,rfl,rfl⟩:=bG h1;have hlen:=lq hlen;replace h:=ah h;obtain⟨row,m2,l2,h2,h⟩:=h;replace h:=ah h;obtain⟨rows',m3,l3,h3,h⟩:=h;simp only[run_pure,dG,eH] at h;obtain⟨rfl,rfl,_⟩:=h;have hev:=Jb (P:=P) hT e x;have hcells:∃gs,bD G.μ m1 (Gh U w G) (ev P tm e x).cells gs/\(a.eval x).cells.toList=gs:=by
   generalize ev P tm e x=v at hev h2 hlen;cases v with
   |agg cs=>simp only[aC] at hev;obtain⟨arr,he,hq⟩:=hev;exact⟨arr.toList,hq,by rw[he];rfl⟩
   |d y=>have h1:(a.eval x).oneCell'=true:=jP (v:=.d y) rfl hev;exact⟨[a.eval x],by simp only[V.cells,bD];exact⟨_,[],rfl,hev,rfl⟩,by rw[cells_one h1]⟩
   |nil s=>have h1:(a.eval x).oneCell'=true:=jP (v:=.nil s) rfl hev;exact⟨[a.eval x],by simp only[V.cells,bD];exact⟨_,[],rfl,hev,rfl⟩,by rw[cells_one h1]⟩
   |own r ver=>have h1:(a.eval x).oneCell'=true:=jP (v:=.own r ver) rfl hev;exact⟨[a.eval x],by simp only[V.cells,bD];exact⟨_,[],rfl,hev,rfl⟩,by rw[cells_one h1]⟩
   |ptr r o=>have h1:(a.eval x).oneCell'=true:=jP (v:=.ptr r o) rfl hev;exact⟨[a.eval x],by simp only[V.cells,bD];exact⟨_,[],rfl,hev,rfl⟩,by rw[cells_one h1]⟩
   |lI r v i o=>have h1:(a.eval x).oneCell'=true:=jP (v:=.lI r v i o) rfl hev;exact⟨[a.eval x],by simp only[V.cells,bD];exact⟨_,[],rfl,hev,rfl⟩,by rw[cells_one h1]⟩
   |lS r o=>have h1:(a.eval x).oneCell'=true:=jP (v:=.lS r o) rfl hev;exact⟨[a.eval x],by simp only[V.cells,bD];exact⟨_,[],rfl,hev,rfl⟩,by rw[cells_one h1]⟩
   |sG q=>have h1:(a.eval x).oneCell'=true:=jP (v:=.sG q) rfl hev;exact⟨[a.eval x],by simp only[V.cells,bD];exact⟨_,[],rfl,hev,rfl⟩,by rw[cells_one h1]⟩
   |clo f p q=>have h1:(a.eval x).oneCell'=true:=jP (v:=.clo f p q) rfl hev;exact⟨[a.eval x],by simp only[V.cells,bD];exact⟨_,[],rfl,hev,rfl⟩,by rw[cells_one h1]⟩
   |Gz vs=>simp only[V.cells,BJ,toD] at h2;replace h2:=ah h2;obtain⟨_,_,_,h4,_⟩:=h2;exact(ak h4).elim
   |undef=>simp only[V.cells,BJ,toD] at h2;replace h2:=ah h2;obtain⟨_,_,_,h4,_⟩:=h2;exact(ak h4).elim
  obtain⟨gs,hgs,hge⟩:=hcells;obtain⟨G1,N1,t1,q1,hrl⟩:=GU hg hgs ho h2;have hT1:Po G1.μ m2 (Gh U w G1) tm a:=λt v hv=>⟨(hT t v hv).1,t1.le.aC (hT t v hv).2⟩
  obtain⟨G2,N2,t2,q2,hl2,hs2,hz2⟩:=Nl ps t1.ok (t1.out.trans ho) hT1 h3;have hgl:gs.length=iM P e:=by rw[eP hgs,hlen]
  refine⟨G2,N1++N2,t1.trans t2, ?_,by simp[hl2], ?_, ?_⟩
  ·simp only[cO,QY,List.flatMap_cons,hge];refine⟨by rw[hrl,hlen],N1,N2,rfl,AY (by rw[hrl,<-eP hgs];simp) (NZ t2.le.view q1), ?_⟩;rw[List.drop_append_of_le_length au,List.drop_eq_nil_of_le au];exact q2
  ·intro v hv;simp only[QY,List.mem_cons] at hv;rcases hv with rfl|hv
   ·rw[<-Array.length_toList,hge,hgl]
   ·exact hs2 v hv
  ·simp only[QY,List.zipIdx_cons,hz2]
def UC(hA:At base U M0 w0 w m G){tm:iF}{a:Act}(hT:Po G.μ m (Gh U w G) tm a){t:TypeId}{n k:Nat}{ps:Array (Nat×Operand)}{v:V}{l l':Log}(h:(Ie P k t n tm ps.toList).run m l=some (v,m',l')):
  x8 base U M0 w0 w m G P (Instr.buildSlice t n (ps.map λx=>(x.1,a.eval x.2))) v m':=by
 simp only[Ie] at h;replace h:=ah h;obtain⟨e,m1,l1,h1,h⟩:=h;obtain⟨he,rfl,rfl⟩:=dn h1;replace h:=ah h;obtain⟨_,m1,l1,h1,h⟩:=h;obtain⟨hs1,rfl,rfl⟩:=bG h1;replace h:=ah h;obtain⟨_,m1,l1,h1,h⟩:=h;obtain⟨hn,rfl,rfl⟩:=bG h1;replace h:=ah h;obtain⟨_,m1,l1,h1,h⟩:=h;obtain⟨hb,rfl,rfl⟩:=bG h1;replace h:=ah h;obtain⟨z,m1,l1,h1,h⟩:=h;obtain⟨hz,rfl,rfl⟩:=dn h1;obtain⟨inf,zv,hi,hzv,_⟩:=DV (m:=m1) (μ:=G.μ) (h:=Gh U w G) hz;replace h:=ah h;obtain⟨rows,m2,l2,h2,h⟩:=h;replace h:=ah h;obtain⟨_,m3,l3,h3,h⟩:=h;simp only[run_pure,dG,eH] at h;obtain⟨rfl,rfl,_⟩:=h;have hs1:=Nat.le_of_ble_eq_true hs1;have hn:=lq hn;have hb:=Nat.le_of_ble_eq_true hb;have hu:=Fp he;obtain⟨G1,N1,t1,q1,hrl,hsz,atT⟩:=Nl (e:=e) ps.toList hA.ok hA.out hT h2;obtain⟨hE1,ho1,Pq⟩:=hA.took t1;have hsz':iM P e=inf.size:=wZ hi;have hrn:rows.length=n:=by rw[hrl,hn]
 by_cases hn0:n=0
 ·subst hn0;have hps:ps.toList=[]:=List.eq_nil_of_length_eq_zero hn;have hrows:rows=[]:=List.eq_nil_of_length_eq_zero hrn;subst hrows;have hpa:ps=#[]:=by cases ps;simp_all
  subst hpa;simp only[cO] at q1;obtain⟨G2,hnx,FT⟩:=UA (w1:=w) (cap:=0) (arr:=#[]) (T:=e) t1.ok ho1 Pq rfl (Keep.refl _ _) (k:=k) (fl:=lJ P e) (s:=iM P e) (rows:=[]) (by rw[hE1,q1];simp[cO]) (by simp) (by simp) h3;refine⟨_,_,G2, ?_,Nx.after t1.le hnx,FT⟩;simp[Instr.buildSlice,run_underlying hu,sizeOf,typeInfo,hi,Instr.fill,newRow,Array.range_zero']
 ·have hpos:¬n * inf.size=0:=by rw[<-hsz'];intro e0;rcases Nat.mul_eq_zero.1 e0 with e1|e1<;>omega
  have hsmall:¬n * inf.size>2 ^ 24:=by rw[<-hsz'];omega
  have afv:=Go.Great.fill_whole (s:=iM P e) au (ps.toList.map λx=>a.eval x.2) ((Array.range (n * inf.size)).map (zv.cells[· % zv.cells.size]!)) hsz (by simp[<-hsz'];rw[<-hn];simp);rw[<-atT] at afv;have hrun:=run_buildSlice w t e n (ps.map λx=>(x.1,a.eval x.2)) _ inf zv hu hi hzv hsmall hpos (by rw[<-hsz'];rw[<-hsz'] at afv;simpa[Array.toList_map] using afv);have hcl:((ps.toList.map λx=>a.eval x.2).flatMap λv=>v.cells.toList).length=n * iM P e:=by
   have:∀(l:List Value),(∀v∈l,v.cells.size=iM P e)->(l.flatMap λv=>v.cells.toList).length=l.length * iM P e:=by
    intro l;induction l with
    |nil=>simp
    |cons v l ih=>intro hv;simp only[List.flatMap_cons,ZP,OL,Nat.add_mul,Array.length_toList];rw[ih (λu hu=>hv u (by simp[hu])),hv v (by simp)];omega
   rw[this _ hsz];simp[<-hn]
  obtain⟨G2,hnx,FT⟩:=UA (w1:=w) (cap:=n) (arr:=((ps.toList.map λx=>a.eval x.2).flatMap λv=>v.cells.toList).toArray) (T:=e) t1.ok ho1 Pq rfl (Keep.refl _ _) (k:=k) (fl:=lJ P e) (s:=iM P e) (rows:=rows) (by rw[hE1];simpa using q1) au (by simp[hcl]) h3;rw[hrn] at FT;exact⟨_,_,G2,hrun,Nx.after t1.le hnx,FT⟩
end
end Go.Vm
namespace Go.Vm
open Go
section
variable {base:Nat} {U:Nat->Prop} {M0:List Nat} {w0 w w':World} {m m':Mem} {G G':GS} {P:Program}
def Ro{h:View}{b:Nat}:∀(r:Row) (o:Nat),nN h r b o->∃cs:List Value,cs.length=r.length/\(∀j v,cs[j]? =some v->h b (o+j)=some v)/\dY h r cs
 |[],_,_=>⟨[],rfl,by simp,trivial⟩
 |x::r,o,q=>by
  simp only[nN] at q;obtain⟨⟨v,h1,h2⟩,h3⟩:=q;obtain⟨cs,e1,e2,e3⟩:=Ro r (o+1) h3;refine⟨v::cs,by simp[e1], ?_,⟨v,cs,rfl,h2,e3⟩⟩;intro j u hj;cases j with
  |zero=>simp at hj;subst hj;exact h1
  |succ j=>
   have:=e2 j u (by simpa using hj)
   rwa [show o+(j+1)=o+1+j from by omega]
def JK{h:View}{s b:Nat}:∀(rs:List Row) (o:Nat),jC h s rs b o->∃cs:List Value,cs.length=rs.length * s/\(∀j v,cs[j]? =some v->h b (o+j)=some v)/\dD h s rs cs
 |[],_,_=>⟨[],by simp,by simp,trivial⟩
 |r::rs,o,q=>by
  simp only[jC] at q;obtain⟨h1,h2,h3⟩:=q;obtain⟨cs1,a1,a2,a3⟩:=Ro r o h2;obtain⟨cs2,b1,b2,b3⟩:=JK rs (o+s) h3;have hl:cs1.length=s:=by rw[a1,h1]
  refine⟨cs1++cs2,by simp[hl,b1,Nat.add_mul];omega, ?_,h1, ?_, ?_⟩
  ·intro j u hj
   by_cases hlt:j<s
   ·rw[List.getElem?_append_left au] at hj;exact a2 j u hj
   ·rw[List.getElem?_append_right au,hl] at hj;have:=b2 (j - s) u hj
    rwa [show o+j=o+s+(j - s) from by omega]
  ·refine BP ?_ a3;rw[List.take_append_of_le_length au]
  ·rw[List.drop_append_of_le_length au,List.drop_eq_nil_of_le au];exact b3
def Rq{h:View}:∀{r:Row} {cs:List Value},dY h r cs->∀u∈cs.take r.length,u.oneCell'=true
 |[],_,_=>by simp
 |x::r,cs,⟨v,cs',e,h1,h2⟩=>by
  subst e;intro u hu;simp only[OL,List.take_succ_cons,List.mem_cons] at hu;rcases hu with rfl|hu
  ·exact IC h1
  ·exact Rq h2 u hu
def Gf{h:View}{s:Nat}:∀{rs:List Row} {cs:List Value},dD h s rs cs->∀u∈cs.take (rs.length * s),u.oneCell'=true
 |[],_,_=>by simp
 |r::rs,cs,⟨h1,h2,h3⟩=>by
  intro u hu;have hs:(r::rs).length * s=s+rs.length * s:=by simp[Nat.add_mul];omega
  rw[hs,List.take_add] at hu;simp only[List.mem_append] at hu;rcases hu with hu|hu
  ·exact Rq h2 u (by rw[h1];exact hu)
  ·exact Gf h3 u hu
def WM{H:Heap}{h:View}{x:D}{g:Value}{N:List Nat}(q:ow H h x g N):g.oneCell'=true:=by
 cases x with
 |sl o s rows=>
  cases o with
  |false=>simp only[ow] at q;exact IC q.2
  |true=>simp only[ow] at q;rcases q with⟨_,rfl,_⟩|⟨b,cap,cs,t,N',rfl,_⟩<;>rfl
 |_=>simp only[ow] at q;rw[q.1];rfl
def XA{H:Heap}{h:View}:∀{r:Row} {cs:List Value} {N:List Nat},dF H h r cs N->∀u∈cs.take r.length,u.oneCell'=true
 |[],_,_,_=>by simp
 |x::r,cs,N,q=>by
  obtain⟨v,cs',N1,N2,rfl,rfl,h1,h2⟩:=vM q;intro u hu;simp only[OL,List.take_succ_cons,List.mem_cons] at hu;rcases hu with rfl|hu
  ·exact WM h1
  ·exact XA h2 u hu
def UD{H:Heap}{h:View}{s:Nat}:∀{rs:List Row} {cs:List Value} {N:List Nat},cO H h s rs cs N->∀u∈cs.take (rs.length * s),u.oneCell'=true
 |[],_,_,_=>by simp
 |r::rs,cs,N,q=>by
  simp only[cO] at q;obtain⟨h1,N1,N2,rfl,h2,h3⟩:=q;intro u hu;have hs:(r::rs).length * s=s+rs.length * s:=by simp[Nat.add_mul];omega
  rw[hs,List.take_add] at hu;simp only[List.mem_append] at hu;rcases hu with hu|hu
  ·exact XA h2 u (by rw[h1];exact hu)
  ·exact UD h3 u hu
def wE(H:Heap)(h:View)(fl:Bool)(s:Nat)(rows:List Row)(cs:List Value)(N:List Nat):Prop:=match fl with
 |true=>dD h s rows cs/\N=[]
 |false=>cO H h s rows cs N
def DW{H:Heap}{h:View}{fl:Bool}{s:Nat}{rows:List Row}{cs cs':List Value}{N:List Nat}(e:cs.take (rows.length * s)=cs'.take (rows.length * s))(q:wE H h fl s rows cs N):wE H h fl s rows cs' N:=by
 cases fl with
 |true=>exact⟨kF e q.1,q.2⟩
 |false=>exact Fv e q
def Pv{H:Heap}{h:View}{fl:Bool}{s:Nat}{a b:List Row}{cs:List Value}{N N':List Nat}(q:wE H h fl s a cs N)(q':wE H h fl s b (cs.drop (a.length * s)) N'):wE H h fl s (a++b) cs (N++N'):=by
 cases fl with
 |true=>exact⟨qj.2 ⟨q.1,q'.1⟩,by rw[q.2,q'.2];rfl⟩
 |false=>exact mD.2 ⟨N,N',rfl,q,q'⟩
def AZ{H H':Heap}{h h':View}(hl:h.le h'){fl:Bool}{s:Nat}{rows:List Row}{cs:List Value}{N:List Nat}(hb:∀b,b∈N->H' b=H b)(q:wE H h fl s rows cs N):wE H' h' fl s rows cs N:=by
 cases fl with
 |true=>exact⟨jv hl s rows _ q.1,q.2⟩
 |false=>exact mY hl s rows _ N hb q
mutual
def afw{H:Heap}{h:View}:∀(x:D) (v:Value),ro h x.fz v->ow H h x.fz v []
 | .int _ _,_,q=>by simpa[D.fz,ow,ro] using q
 | .bool _,_,q=>by simpa[D.fz,ow,ro] using q
 | .str _,_,q=>by simpa[D.fz,ow,ro] using q
 | .GL,_,q=>by simpa[D.fz,ow,ro] using q
 | .sl _ s rows,v,q=>by simp only[D.fz,ow,true_and] at q|-;exact q
end
def Rt{H:Heap}{h:View}:∀(r:Row) (cs:List Value),dY h (sQ r) cs->dF H h (sQ r) cs []
 |[],_,_=>by simp[sQ,dF]
 |x::r,cs,q=>by simp only[sQ,dY] at q;obtain⟨v,cs',e,h1,h2⟩:=q;simp only[sQ,dF];exact⟨v,cs',[],[],e,rfl,afw x v h1,Rt r cs' h2⟩
def Px{H:Heap}{h:View}{s:Nat}:∀(rs:List Row) (cs:List Value),dD h s (aF rs) cs->cO H h s (aF rs) cs []
 |[],_,_=>by simp[aF,cO]
 |r::rs,cs,q=>by simp only[aF,dD] at q;obtain⟨h1,h2,h3⟩:=q;simp only[aF,cO];exact⟨h1,[],[],rfl,Rt r cs h2,Px rs _ h3⟩
def UE{h:View}:∀{r:Row} {cs:List Value},dY h r cs->dY h (sQ r) cs
 |[],_,_=>by simp[sQ,dY]
 |x::r,cs,⟨v,cs',e,h1,h2⟩=>by simp only[sQ,dY];exact⟨v,cs',e,afl x v h1,UE h2⟩
def KZ{h:View}{s:Nat}:∀{rs:List Row} {cs:List Value},dD h s rs cs->dD h s (aF rs) cs
 |[],_,_=>by simp[aF,dD]
 |r::rs,cs,⟨h1,h2,h3⟩=>by simp only[aF,dD];exact⟨by rw[JC];exact h1,UE h2,KZ h3⟩
structure Tail(P:Program)(base:Nat)(U:Nat->Prop)(w:World)(m:Mem)(G:GS)(size:Nat)(fl:Bool)(gy:Value)(ys:List Row)(m':Mem):Prop where
 ex:∃G' news,uN base U w m' G'/\KE m G m' G'/\G'.out=G.out/\G'.μ=G.μ/\Src P size w gy ys.length news/\wE (aX w) (Gh U w G') fl size ys news G'.E/\∀r c,get r m=some c->get r m'=some c\/get r m'=some .dead
def ahD(hA:At base U M0 w0 w m G){e:TypeId}{y:V}{gy:Value}(hy:aC G.μ m (Gh U w G) y gy)(hsz:1<=iM P e){ys:List Row}{l l':Log}(h:(tail P e y).run m l=some (ys,m',l')):
  Tail P base U w m G (iM P e) (lJ P e) gy ys m':=by
 have plain:∀(ys:List Row) (news:List Value),Src P (iM P e) w gy ys.length news->(lJ P e=true->dD (Gh U w G) (iM P e) ys news)->(lJ P e=false->cO (aX w) (Gh U w G) (iM P e) ys news [])->
   Tail P base U w m G (iM P e) (lJ P e) gy ys m:=by
  intro ys news h1 h2 h3;refine⟨G,news,hA.ok,KE.refl _ _,rfl,rfl,h1, ?_,λr c h=> .inl h⟩;rw[hA.E];cases hf:lJ P e with
  |true=>exact⟨h2 hf,rfl⟩
  |false=>exact h3 hf
 have seen:∀(rows:List Row) (o:Bool),ro (Gh U w G) (.sl o (iM P e) rows) gy->Tail P base U w m G (iM P e) (lJ P e) gy (vw (lJ P e) rows) m:=by
  intro rows o hq;simp only[ro] at hq;obtain⟨a,cap,rfl,hcap,hne⟩:=hq;have hvl:(vw (lJ P e) rows).length=rows.length:=by unfold vw;cases lJ P e<;>simp[En]
  by_cases hr:rows=[]
  ·subst hr;have hv:vw (lJ P e) []=[]:=by unfold vw;cases lJ P e<;>simp[aF]
   rw[hv];exact plain [] [] (Src.slice (by simp) (by simp) (by simp)) (λ_=>trivial) (λ_=>by simp[cO])
  ·obtain⟨b,o',rfl,hrows⟩:=hne hr;obtain⟨cs,c1,c2,c3⟩:=JK rows o' hrows;refine plain _ cs ?_ (λhf=> ?_) (λhf=> ?_)
   ·rw[hvl];refine Src.slice c1 (λu hu=> ?_) (λ_=>⟨b,o',rfl,λj v hj=>kS _ _ _ _ _ _ (c2 j v hj)⟩);exact Gf c3 u (by rw[<-c1,List.take_length];exact hu)
   ·rw[hf];exact c3
   ·rw[hf];simp only[vw,dX];exact Px rows cs (KZ c3)
 cases y with
 |d x=>
  cases x with
  |str s=>simp only[Vm.tail] at h;replace h:=ah h;obtain⟨_,m1,l1,h1,h⟩:=h;obtain⟨hs,rfl,rfl⟩:=bG h1;simp only[run_pure,dG,eH] at h;obtain⟨rfl,rfl,_⟩:=h;have hs:=lq hs;simp only[aC,ro] at hy;subst hy;have akV:=afq (h:=Gh U w G) s _ rfl;refine plain _ _ (by rw[hs];simpa using Src.string) (λ_=>by rw[hs];exact akV) (λ_=> ?_);rw[hs];refine KQ 1 _ _ ?_ akV;simp[jO,byteRow,D.flat]
  |sl o s rows=>simp only[Vm.tail] at h;replace h:=ah h;obtain⟨_,m1,l1,h1,h⟩:=h;obtain⟨hs,rfl,rfl⟩:=bG h1;simp only[run_pure,dG,eH] at h;obtain⟨rfl,rfl,_⟩:=h;have hs:=lq hs;subst hs;simp only[aC] at hy;exact seen rows o hy
  |int _ _=>exact(ak h).elim
  |bool _=>exact(ak h).elim
  |GL=>exact(ak h).elim
 |nil s=>simp only[Vm.tail,run_pure,dG,eH] at h;obtain⟨rfl,rfl,_⟩:=h;simp only[aC] at hy;subst hy;exact plain [] [] (Src.slice (by simp) (by simp) (by simp)) (λ_=>trivial) (λ_=>by simp[cO])
 |own r ver=>
  simp only[Vm.tail] at h;replace h:=ah h;obtain⟨c,m1,l1,h1,h⟩:=h;rw[jV] at h1;cases h1;cases hc:get r m with
  |none=>rw[hc] at h;exact(ak h).elim
  |some c=>
   rw[hc] at h;cases c with
   |box _ _=>exact(ak h).elim
   |dead=>exact(ak h).elim
   |xk _ _ _=>exact(ak h).elim
   |jM _ _=>exact(ak h).elim
   |jB _ _ _ _ _=>exact(ak h).elim
   |arr fz fl dP s rows=>
    simp only at h;replace h:=ah h;obtain⟨_,m1,l1,h1,h⟩:=h;obtain⟨hb,rfl,rfl⟩:=bG h1;have hb:=lq hb;subst hb;replace h:=ah h;obtain⟨_,m1,l1,h1,h⟩:=h;obtain⟨hs,rfl,rfl⟩:=bG h1;have hs:=lq hs;subst hs;simp only[aC,hc] at hy;have hy:=hy.2.2 trivial;subst hy;have hro:r ∉ G.out:=by rw[hA.out];simp
    have hcell:=hA.ok.cell r _ hc hro;cases hf:lJ P e with
    |true=>
     rw[hf] at h;simp only at h;replace h:=ah h;obtain⟨_,m1,l1,h1,h⟩:=h;obtain⟨hff,rfl,rfl⟩:=bG h1;simp only[run_pure,dG,eH] at h;obtain⟨rfl,rfl,_⟩:=h;cases fz with
     |true=>have:=seen rows true hcell.1;rw[hf] at this;simpa[vw] using this
     |false=>
      have hfl:fl=true:=by simpa using hff
      subst hfl;rw[hf] at plain;simp only[iT] at hcell;rcases hcell with⟨rfl,hμ,_⟩|⟨b,cap,cs,T,N',h1,h2,h3,h4,h5,_⟩
      ·rw[hμ] at plain|-;exact plain [] [] (Src.slice (by simp) (by simp) (by simp)) (λ_=>trivial) (λe=>by cases e)
      ·rw[h1] at plain|-;have hle:rows.length * iM P e<=cs.toList.length:=by
        have hcl:cs.toList.length=cap * iM P e:=by simpa using h4
        rw[hcl];exact Nat.mul_le_mul_right _ h2
       refine plain rows (cs.toList.take (rows.length * iM P e)) (Src.slice (by rw[MW];omega) (λu hu=>Gf h5.1 u hu) (λ_=>⟨b,0,rfl,λj v hj=> ?_⟩)) (λ_=>kF (by rw[List.take_take,Nat.min_self]) h5.1) (λe=>by cases e);rw[List.getElem?_take] at hj;split at hj
       ·have:=full_cell (w:=w) h3 (0+j);rw[Nat.zero_add] at this|-;rw[hj] at this;exact this
       ·cases hj
    |false=>
     rw[hf] at h;simp only at h;replace h:=ah h;obtain⟨_,m1,l1,h1,h⟩:=h;obtain⟨hff,rfl,rfl⟩:=bG h1;have hfl:fl=false:=by simpa using hff
     subst hfl;cases fz with
     |true=>simp only[run_pure,dG,eH] at h;obtain⟨rfl,rfl,_⟩:=h;have:=seen rows true hcell.1;rw[hf] at this;simpa[vw] using this
     |false=>
      simp only at h;replace h:=ah h;obtain⟨_,m1,l1,h1,h⟩:=h;rw[nS] at h1;cases h1;simp only[run_pure,dG,eH] at h;obtain⟨rfl,rfl,_⟩:=h;obtain⟨k1,k2,k3⟩:=hA.ok.kill hc hro;have hold:∀j c,get j m1=some c->get j (put r .dead m1)=some c\/get j (put r .dead m1)=some .dead:=by
       intro j c hj
       by_cases e:j=r
       ·subst e;right;exact dA _ _ _
       ·left;rw[eU e];exact hj
      rcases k3 with⟨rfl,hμ,hF⟩|⟨b,cap,cs,T,N',h1,h2,h3,h4,h5,hF⟩
      ·refine⟨_,[],k1,k2,rfl,rfl, ?_, ?_,hold⟩
       ·rw[hμ];exact Src.slice (by simp) (by simp) (by simp)
       ·rw[hA.E,hF];simp[wE,cO]
      ·have hnd:(b::N').Nodup:=by rw[<-hF];exact hA.ok.nd r
       obtain⟨q1,q2⟩:=k1.less N' (List.nodup_cons.1 hnd).2 (λx hx=>by rw[hA.E,hF];simp[hx]);have hle:rows.length * iM P e<=cs.toList.length:=by
        have hcl:cs.toList.length=cap * iM P e:=by simpa using h4
        rw[hcl];exact Nat.mul_le_mul_right _ h2
       refine⟨_,cs.toList.take (rows.length * iM P e),q1,k2.trans q2,rfl,rfl, ?_, ?_,hold⟩
       ·rw[h1];refine Src.slice (by rw[MW];omega) (λu hu=>UD h5 u hu) (λ_=>⟨b,0,rfl,λj v hj=> ?_⟩);rw[List.getElem?_take] at hj;split at hj
        ·have:=full_cell (w:=w) h3 (0+j);rw[Nat.zero_add] at this|-;rw[hj] at this;exact this
        ·cases hj
       ·exact Fv (by rw[List.take_take,Nat.min_self]) (Z7 (k2.view.trans' q2.view) h5)
 |ptr _ _=>exact(ak h).elim
 |lI _ _ _ _=>exact(ak h).elim
 |lS _ _=>exact(ak h).elim
 |sG _=>exact(ak h).elim
 |clo _ _ _=>exact(ak h).elim
 |agg _=>exact(ak h).elim
 |Gz _=>exact(ak h).elim
 |undef=>exact(ak h).elim
end
end Go.Vm
namespace Go.Vm
open Go
section
variable {base:Nat} {U:Nat->Prop} {M0:List Nat} {w0 w w':World} {m m':Mem} {G G' G1:GS} {P:Program}
def iG{b:Bool}{l:Log}{x:Unit}{l':Log}(h:(ck b).run m l=some (x,m',l')):b=true/\m=m'/\l=l':=by obtain⟨h1,h2,h3⟩:=bG h;exact⟨h1,h2.symm,h3.symm⟩
def Fz{a:Nat}(h:Nat.ble a IZ=true):a<=140737488355328:=Nat.le_of_ble_eq_true h
def Qp{M M':List Nat}(h:Keep M w w')(hs:∀b,b∈M->b∈M'):Keep M' w w':=⟨h.os,h.tape,h.output,h.size,λb hb hn=>h.block b hb (λhx=>hn (hs b hx))⟩
def JL{w1:World}{o:Obj}(h:Keep [] w w1):Keep [] w (w1.alloc o):=h.trans (Og (M:=[])) (by simp)
def Ru(hg:uN base U w m G)(ho:G.out=[])(hfr:Fr M0 w0 w G){w1:World}(hw1:w1.heap=w.heap)(hk1:Keep [] w w1){k:Nat}{fl:Bool}{s cap:Nat}{rows:List Row}{arr:Array Value}{T:TypeId}(hq:wE (aX w) (Gh U w G) fl s rows arr.toList G.E)
  (hcap:rows.length<=cap) (hsz:arr.size=cap * s) {u:Unit} {l l':Log} (h:(new k (.arr false fl 0 s rows)).run m l=some (u,m',l')):
  ∃G',Nx base U M0 w0 w m G (w1.alloc (.cells arr T)) m' G'/\aC G'.μ m' (Gh U (w1.alloc (.cells arr T)) G') (.own k 0) (.slice (some ⟨w.heap.size,0,none⟩) rows.length cap):=by
 obtain⟨hn,rfl⟩:=JE h;have hsize:(w1.alloc (.cells arr T)).heap.size=w.heap.size+1:=by rw[World.size_alloc,hw1]
 have hkeep:Keep [] w (w1.alloc (.cells arr T)):=JL hk1;have hnE:w.heap.size ∉ G.E:=λhE=>by have:=(hg.lt _ (.inl hE)).1;omega
 refine⟨_,hg.fresh ho hfr (gv:=.slice (some ⟨w.heap.size,0,none⟩) rows.length cap) (N:=w.heap.size::G.E) hn hkeep (List.nodup_cons.2 ⟨hnE,hg.Ug⟩) ?_ ?_, ?_⟩
 ·intro b hb;simp only[List.mem_cons] at hb;rcases hb with rfl|hb
  ·exact⟨.inr (Nat.le_refl _),by rw[hsize];omega⟩
  ·exact⟨.inl hb,by rw[hsize];have:=(hg.lt b (.inl hb)).1;omega⟩
 ·intro h' hv hml ahC;simp only[iT,pz];refine .inr ⟨w.heap.size,cap,arr,T,G.E,rfl,hcap,Jc hw1,hsz, ?_,rfl⟩;have:=AZ (H':=aX (w1.alloc (.cells arr T))) hv (λb hb=>hkeep.block b (hg.lt b (.inl hb)).1 (by simp)) hq;cases fl with
  |true=>exact this
  |false=>exact this
 ·simp[aC,dA,IB]
def JM{z:Value}{n s:Nat}(h:z.cells.size=s):(Builtin.zeroCells z.cells n).size=n * s:=by simp[Builtin.zeroCells,h]
def ada(t1:uN base U w m G1){m0:Mem}(t2:KE m0 G m G1)(ho1:G1.out=[])(Pq:Fr M0 w0 w G1){r ver s:Nat}{rows ys:List Row}(hc:get r m=some (.xk ver s rows)){t ty ry e:TypeId}{inf:TypeInfo}{zv gy:Value}{news:List Value}
  (hu:P.underlying t=some (.slice e)) (hty':(∃e',P.underlying ty=some (.slice e'))\/P.underlying ty=some .string) (hi:P.info? e=some inf) (hzv:inf.zero=some zv) (hsz:s=inf.size) (hzs:zv.cells.size=s) (hsrc:Src P inf.size w gy ys.length news)
  (hrows:wE (aX w) (Gh U w G1) true s ys news G1.E) (hb1:(rows.length+ys.length) * inf.bytes<=140737488355328) (hb2:rows.length+ys.length<=140737488355328) (hcell:O5 (aX w) (Gh U w G1) s rows (G1.μ r) (G1.F r)):
  x8 base U M0 w0 w m0 G P (Builtin.append_ #[t,ty] ry #[G1.μ r,gy]) (.own r (ver+1)) (put r (.xk (ver+1) s (rows++ys)) m):=by
 have hnl:news.length=ys.length * s:=by rw[hsz];exact hsrc.n
 have UF:¬ver=ver+1:=au;have hE:G1.E=[]:=hrows.2;have hsn:dD (Gh U w G1) s ys news:=hrows.1;have fin:∀(w':World) (g:Value) (N:List Nat),Keep (G1.F r) w w'->N.Nodup->(∀b,b∈N->(b∈G1.F r\/b∈G1.E\/w.heap.size<=b)/\b<w'.heap.size)->
   (∀h':View,(Gh U w G1).le h'->O5 (aX w') h' s (rows++ys) g N)->(Builtin.append_ #[t,ty] ry #[G1.μ r,gy]).run P w=.ok g w'->IB g->
   x8 base U M0 w0 w m0 G P (Builtin.append_ #[t,ty] ry #[G1.μ r,gy]) (.own r (ver+1)) (put r (.xk (ver+1) s (rows++ys)) m):=by
  intro w' g N hk hN hNs FT hrun hone;refine⟨g,w',_,hrun,Nx.after t2 (t1.rewrite ho1 Pq (μ':=O8 G1.μ r g) (N:=N) hc hk hN hNs (λk hk=>wR g hk) ⟨au,λe=>absurd e UF⟩ (λh' hv hml _=> ?_)), ?_⟩
  ·simp only[iT,pz];exact FT h' hv
  ·simp[aC,dA,hone]
 have fresh:∀(olds:List Value) (cap:Nat),olds.length=rows.length * s->(∀h':View,(Gh U w G1).le h'->dD h' s rows olds)->rows.length+ys.length<=cap->
   (Builtin.append_ #[t,ty] ry #[G1.μ r,gy]).run P w=.ok (.slice (some ⟨w.heap.size,0,none⟩) (rows.length+ys.length) cap) (w.drew.alloc (.cells ((olds++news).toArray++Builtin.zeroCells zv.cells (cap - (rows.length+ys.length))) e))->
   x8 base U M0 w0 w m0 G P (Builtin.append_ #[t,ty] ry #[G1.μ r,gy]) (.own r (ver+1)) (put r (.xk (ver+1) s (rows++ys)) m):=by
  intro olds cap hol hos hcap hrun;have hkeep:Keep [] w (w.drew.alloc (.cells ((olds++news).toArray++Builtin.zeroCells zv.cells (cap - (rows.length+ys.length))) e)):=JL Mc;have hsize:(w.drew.alloc (.cells ((olds++news).toArray++Builtin.zeroCells zv.cells (cap - (rows.length+ys.length))) e)).heap.size=w.heap.size+1:=by rw[World.size_alloc];rfl
  refine fin _ _ [w.heap.size] (Qp hkeep (by simp)) (by simp) ?_ ?_ hrun ⟨_,_,_,rfl⟩
  ·intro k hk;simp only[List.mem_singleton] at hk;subst hk;exact⟨.inr (.inr (Nat.le_refl _)),by rw[hsize];omega⟩
  ·intro h' hv;refine .inr ⟨w.heap.size,0,cap,_,e,by simp,by simpa using hcap,Jc rfl, ?_, ?_,rfl⟩
   ·rw[Array.size_append,JM hzs];simp only[List.size_toArray,ZP,hol,hnl];rw[<-Nat.add_mul,<-Nat.add_mul,Nat.zero_add];exact Nat.mul_le_mul_right _ au
   ·rw[List.drop_zero,Array.toList_append];refine qj.2 ⟨kF (cs:=olds) ?_ (hos h' hv),kF (cs:=news) ?_ (jv hv _ _ _ hsn)⟩
    ·simp only[BD];rw[List.take_append_of_le_length au]
    ·simp only[BD];rw[<-hol,List.drop_left,List.take_append_of_le_length au]
 rcases hcell with⟨rfl,hμ,hF⟩|⟨b,o,cap,cs,T,k1,k2,k3,k4,k5,k6⟩
 ·by_cases hy0:ys=[]
  ·subst hy0;refine fin w (.slice none 0 0) [] (Keep.refl _ _) (by simp) (by simp) (λh' hv=> .inl ⟨rfl,rfl,rfl⟩) ?_ ⟨_,_,_,rfl⟩;rw[hμ];exact FQ hu hty' hi hsrc
  ·have hm:ys.length≠0:=by simpa using hy0
   obtain⟨cap,hcap,hrun⟩:=FP (w:=w) (ty:=ry) hu hty' hi hzv hsrc hm (by simpa using hb2) (by simpa using hb1);refine fresh [] cap (by simp) (λ_ _=>trivial) (by simpa using hcap) ?_;rw[hμ];simpa using hrun
 ·have WH:b∈G1.F r:=by rw[k6];simp
  have hcl:o+cap * s<=cs.toList.length:=by simpa using k4
  have hrl:rows.length * s<=cap * s:=Nat.mul_le_mul_right _ k2
  by_cases hroom:rows.length+ys.length<=cap
  ·have hrun:=Oa (ty:=ry) (o:=o) hu hty' hi hsrc k3 hroom (by rw[<-hsz];exact k4);rw[<-hsz] at hrun;have hh:=setRow_heap w b cs (splice cs.toList (o+rows.length * s) news).toArray T (0,0) k3;have hfit:o+rows.length * s+news.length<=cs.toList.length:=by have:=Nat.mul_le_mul_right s hroom;rw[Nat.add_mul] at this;rw[hnl];omega
   have hsz2:(w.setRow b (splice cs.toList (o+rows.length * s) news).toArray).heap.size=w.heap.size:=by simp[World.setRow]
   refine fin _ (.slice (some ⟨b,o,none⟩) (rows.length+ys.length) cap) [b] (Fq WH) (by simp) ?_ ?_ (by rw[k1];exact hrun) ⟨_,_,_,rfl⟩
   ·intro k hk;simp only[List.mem_singleton] at hk;subst hk;rw[hsz2];exact⟨.inl WH,(t1.lt _ (.inr ⟨r,WH⟩)).1⟩
   ·intro h' hv;refine .inr ⟨b,o,cap,_,T,by simp,by simpa using hroom,hh, ?_, ?_,rfl⟩
    ·have:=rO (l:=cs.toList) (xs:=news) (o:=o+rows.length * s) hfit;simp only[List.size_toArray];rw[this];exact hcl
    ·have e1:(splice cs.toList (o+rows.length * s) news).drop o=(cs.toList.drop o).take (rows.length * s)++(news++cs.toList.drop (o+rows.length * s+news.length)):=by simp only[splice,BD];rw[List.drop_append_of_le_length (by rw[MW];omega),List.drop_take];congr 2;omega
     have l1:((cs.toList.drop o).take (rows.length * s)).length=rows.length * s:=by rw[MW,List.length_drop];omega
     rw[e1];refine qj.2 ⟨kF (cs:=cs.toList.drop o) ?_ (jv hv _ _ _ k5),kF (cs:=news) ?_ (jv hv _ _ _ hsn)⟩
     ·rw[List.take_append_of_le_length au,List.take_take,Nat.min_self]
     ·rw[List.drop_append_of_le_length au,List.drop_eq_nil_of_le au,List.nil_append,List.take_append_of_le_length au]
  ·have hlt:cap<rows.length+ys.length:=au;obtain⟨cap',hcap',hrun⟩:=Ob (ty:=ry) (o:=o) (olds:=(cs.toList.drop o).take (rows.length * s)) hu hty' hi hzv hsrc (by rw[MW,List.length_drop,<-hsz];omega) (λj u hj=>by
    rw[List.getElem?_take] at hj;split at hj
    ·rw[List.getElem?_drop] at hj;have:=full_cell (w:=w) k3 (o+j);rw[hj] at this;exact this
    ·cases hj) hlt hb2 hb1
   refine fresh ((cs.toList.drop o).take (rows.length * s)) cap' (by rw[MW,List.length_drop];omega) (λh' hv=>kF (cs:=cs.toList.drop o) (by rw[List.take_take,Nat.min_self]) (jv hv _ _ _ k5)) hcap' ?_;rw[k1];exact hrun
def abS(hA:At base U M0 w0 w m G){dst:Nat}{t ty ry:TypeId}{x y:V}{gx gy:Value}(hx:aC G.μ m (Gh U w G) x gx)(hy:aC G.μ m (Gh U w G) y gy){v:V}{l l':Log}(h:(YE P dst t ty x y).run m l=some (v,m',l')):
  x8 base U M0 w0 w m G P (Builtin.append_ #[t,ty] ry #[gx,gy]) v m':=by
 simp only[YE] at h;replace h:=ah h;obtain⟨e,m1,l1,h1,h⟩:=h;obtain⟨he,rfl,rfl⟩:=dn h1;replace h:=ah h;obtain⟨_,m1,l1,h1,h⟩:=h;obtain⟨hs1,rfl,rfl⟩:=bG h1;replace h:=ah h;obtain⟨_,m1,l1,h1,h⟩:=h;obtain⟨hty,rfl,rfl⟩:=bG h1;replace h:=ah h;obtain⟨z,m1,l1,h1,h⟩:=h;obtain⟨hz,rfl,rfl⟩:=dn h1;replace h:=ah h;obtain⟨_,m1,l1,h1,h⟩:=h;obtain⟨hzs,rfl,rfl⟩:=bG h1;replace h:=ah h;obtain⟨ys,m2,l2,h2,h⟩:=h;have hs1:=Nat.le_of_ble_eq_true hs1;have hu:=Fp he;have hty':(∃e',P.underlying ty=some (.slice e'))\/P.underlying ty=some .string:=by
  cases hq:P.underlying ty with
  |none=>simp[hq] at hty
  |some d=>rw[hq] at hty;cases d<;>simp at hty<;>simp
 obtain⟨G1,news,t1,t2,t3,t4,hsrc,hrows,hold⟩:=(ahD hA hy hs1 h2).ex;have Pq:Fr M0 w0 w G1:=hA.fr.less t2.ex;have ho1:G1.out=[]:=t3.trans hA.out;obtain⟨inf,zv,hi,hzv,afx⟩:=DV (m:=m1) (μ:=G.μ) (h:=Gh U w G) hz;have hzs:zv.cells.size=iM P e:=by rw[<-lq hzs,<-eP afx,Array.length_toList]
 have hsz:iM P e=inf.size:=wZ hi;have hby:GN P e=inf.bytes:=by simp[GN,hi]
 rw[hsz] at hsrc;cases x with
 |nil s0=>
  simp only at h;replace h:=ah h;obtain⟨_,m3,l3,h3,h⟩:=h;obtain⟨hb1,rfl,rfl⟩:=bG h3;replace h:=ah h;obtain⟨_,m3,l3,h3,h⟩:=h;obtain⟨hb2,rfl,rfl⟩:=bG h3;replace h:=ah h;obtain⟨_,m3,l3,h3,h⟩:=h;simp only[run_pure,dG,eH] at h;obtain⟨rfl,rfl,_⟩:=h;simp only[aC] at hx;subst hx;have hb1:=Fz hb1;have hb2:=Fz hb2;rw[hby] at hb1
  by_cases hy0:ys=[]
  ·subst hy0;obtain⟨hn,rfl⟩:=JE h3;refine⟨_,w,_,FQ hu hty' hi hsrc,Nx.after t2 (t1.fresh ho1 Pq (gv:=.slice none 0 0) (N:=[]) hn (Keep.refl _ _) (by simp) (by simp) (λh' hv hml _=> ?_)), ?_⟩
   ·simp only[iT,pz];exact .inl ⟨rfl,rfl,rfl⟩
   ·simp[aC,dA,IB]
  ·have hm:ys.length≠0:=by simpa using hy0
   obtain⟨cap,hcap,hrun⟩:=FP (w:=w) (ty:=ry) hu hty' hi hzv hsrc hm hb2 hb1;obtain⟨G2,hnx,FT⟩:=Ru (w1:=w.drew) (cap:=cap) (arr:=news.toArray++Builtin.zeroCells zv.cells (cap - ys.length)) (T:=e) t1 ho1 Pq rfl Mc (k:=dst) (fl:=lJ P e) (s:=iM P e) (rows:=ys)
    (DW (by
     have hnl:news.length=ys.length * iM P e:=by rw[hsz];exact hsrc.n
     simp only[Array.toList_append];rw[List.take_append_of_le_length au]) hrows) hcap (by
     rw[Array.size_append,JM hzs,hsz];have hnl:news.toArray.size=ys.length * inf.size:=by simpa using hsrc.n
     rw[hnl,<-Nat.add_mul];congr 1;omega) h3
   exact⟨_,_,G2,hrun,Nx.after t2 hnx,FT⟩
 |own r ver=>
  simp only at h;replace h:=ah h;obtain⟨c,m3,l3,h3,h⟩:=h;rw[jV] at h3;cases h3;replace hx:=t2.aC hx;cases hc:get r m2 with
  |none=>rw[hc] at h;exact(ak h).elim
  |some c=>
  rw[hc] at h;cases c with
  |box _ _=>exact(ak h).elim
  |dead=>exact(ak h).elim
  |jM _ _=>exact(ak h).elim
  |jB _ _ _ _ _=>exact(ak h).elim
  |xk dP s rows=>simp only at h;replace h:=ah h;obtain⟨_,m4,l4,h4,h⟩:=h;obtain⟨hb,rfl,rfl⟩:=iG h4;have hb:=lq hb;subst hb;replace h:=ah h;obtain⟨_,m4,l4,h4,h⟩:=h;obtain⟨hs,rfl,rfl⟩:=iG h4;have hs:=lq hs;subst hs;replace h:=ah h;obtain⟨_,m4,l4,h4,h⟩:=h;obtain⟨hfl,rfl,rfl⟩:=iG h4;rw[hfl] at hrows;replace h:=ah h;obtain⟨_,m4,l4,h4,h⟩:=h;obtain⟨hb1,rfl,rfl⟩:=iG h4;have hb1:=Fz hb1;rw[hby] at hb1;replace h:=ah h;obtain⟨_,m4,l4,h4,h⟩:=h;obtain⟨hb2,rfl,rfl⟩:=iG h4;have hb2:=Fz hb2;replace h:=ah h;obtain⟨_,m4,l4,h4,h⟩:=h;rw[nS] at h4;cases h4;simp only[run_pure,dG,eH] at h;obtain⟨rfl,rfl,_⟩:=h;simp only[aC,hc] at hx;have hx:=hx.2.2 trivial;subst hx;have hcell:=t1.cell r _ hc (by rw[ho1];simp);exact ada t1 t2 ho1 Pq hc hu hty' hi hzv hsz hzs hsrc hrows hb1 hb2 hcell
  |arr fz fl dP s rows=>
  cases fz with
  |true=>exact(ak h).elim
  |false=>
  simp only at h;replace h:=ah h;obtain⟨_,m4,l4,h4,h⟩:=h;obtain⟨hb,rfl,rfl⟩:=iG h4;have hb:=lq hb;subst hb;replace h:=ah h;obtain⟨_,m4,l4,h4,h⟩:=h;obtain⟨hs,rfl,rfl⟩:=iG h4;have hs:=lq hs;subst hs;replace h:=ah h;obtain⟨_,m4,l4,h4,h⟩:=h;obtain⟨hfl,rfl,rfl⟩:=iG h4;have hfl:fl=lJ P e:=by cases fl<;>cases hq:lJ P e<;>simp_all
  rw[<-hfl] at hrows;replace h:=ah h;obtain⟨_,m4,l4,h4,h⟩:=h;obtain⟨hb1,rfl,rfl⟩:=iG h4;have hb1:=Fz hb1;rw[hby] at hb1;replace h:=ah h;obtain⟨_,m4,l4,h4,h⟩:=h;obtain⟨hb2,rfl,rfl⟩:=iG h4;have hb2:=Fz hb2;replace h:=ah h;obtain⟨_,m4,l4,h4,h⟩:=h;rw[nS] at h4;cases h4;simp only[run_pure,dG,eH] at h;obtain⟨rfl,rfl,_⟩:=h;simp only[aC,hc] at hx;have hx:=hx.2.2 trivial;subst hx;have hcell:=t1.cell r _ hc (by rw[ho1];simp);have hnl:news.length=ys.length * iM P e:=by rw[hsz];exact hsrc.n
  have UF:¬ver=ver+1:=au;have hEd:∀b,b∈G1.F r->b ∉ G1.E:=λb=>t1.OM r b
  have fin:∀(w':World) (g:Value) (N:List Nat),Keep (G1.F r) w w'->N.Nodup->(∀b,b∈N->(b∈G1.F r\/b∈G1.E\/w.heap.size<=b)/\b<w'.heap.size)->
    (∀h':View,(Gh U w G1).le h'->KD (aX w') h' fl (iM P e) (rows++ys) g N)->(Builtin.append_ #[t,ty] ry #[G1.μ r,gy]).run P w=.ok g w'->IB g->
    x8 base U M0 w0 w m1 G P (Builtin.append_ #[t,ty] ry #[G1.μ r,gy]) (.own r (ver+1)) (put r (.arr false fl (ver+1) (iM P e) (rows++ys)) m2):=by
   intro w' g N hk hN hNs FT hrun hone;refine⟨g,w',_,hrun,Nx.after t2 (t1.rewrite ho1 Pq (μ':=O8 G1.μ r g) (N:=N) hc hk hN hNs (λk hk=>wR g hk) ⟨au,rfl,λe=>absurd e UF⟩ (λh' hv hml _=> ?_)), ?_⟩
   ·simp only[iT,pz];exact FT h' hv
   ·simp[aC,dA,hone]
  simp only[iT] at hcell;rcases hcell with⟨rfl,hμ,hF⟩|⟨b,cap,cs,T,N',k1,k2,k3,k4,k5,k6⟩
  ·
   by_cases hy0:ys=[]
   ·subst hy0;refine fin w (.slice none 0 0) [] (Keep.refl _ _) (by simp) (by simp) (λh' hv=> .inl ⟨rfl,rfl,rfl⟩) ?_ ⟨_,_,_,rfl⟩;rw[hμ];exact FQ hu hty' hi hsrc
   ·have hm:ys.length≠0:=by simpa using hy0
    obtain⟨cap,hcap,hrun⟩:=FP (w:=w) (ty:=ry) hu hty' hi hzv hsrc hm (by simpa using hb2) (by simpa using hb1);have hkeep:Keep [] w (w.drew.alloc (.cells (news.toArray++Builtin.zeroCells zv.cells (cap - ys.length)) e)):=JL Mc;have hsize:(w.drew.alloc (.cells (news.toArray++Builtin.zeroCells zv.cells (cap - ys.length)) e)).heap.size=w.heap.size+1:=by rw[World.size_alloc];rfl
    have hnE:w.heap.size ∉ G1.E:=λhE=>by have:=(t1.lt _ (.inl hE)).1;omega
    refine fin _ _ (w.heap.size::G1.E) (Qp hkeep (by simp)) (List.nodup_cons.2 ⟨hnE,t1.Ug⟩) ?_ ?_ (by rw[hμ];exact hrun) ⟨_,_,_,rfl⟩
    ·intro k hk;simp only[List.mem_cons] at hk;rcases hk with rfl|hk
     ·exact⟨.inr (.inr (Nat.le_refl _)),by rw[hsize];omega⟩
     ·exact⟨.inr (.inl hk),by rw[hsize];have:=(t1.lt k (.inl hk)).1;omega⟩
    ·intro h' hv;refine .inr ⟨w.heap.size,cap,_,e,G1.E,rfl,by simpa using hcap,Jc rfl, ?_, ?_,rfl⟩
     ·rw[Array.size_append,JM hzs,hsz];have hnl:news.toArray.size=ys.length * inf.size:=by simpa using hsrc.n
      rw[hnl,<-Nat.add_mul];congr 1;omega
     ·have h1:=AZ hv (λb hb=>hkeep.block b (t1.lt b (.inl hb)).1 (by simp)) hrows;have h2:=DW (cs':=(news.toArray++Builtin.zeroCells zv.cells (cap - ys.length)).toList) (by simp only[Array.toList_append];rw[List.take_append_of_le_length au]) h1;rw[List.nil_append];cases fl with
      |true=>exact h2
      |false=>exact h2
  ·have WH:b∈G1.F r:=by rw[k6];simp
   have aad:=t1.nd r;rw[k6] at aad;have abT:∀k,k∈N'->k∈G1.F r:=λk hk=>by rw[k6];simp[hk]
   have akW:(N'++G1.E).Nodup:=List.nodup_append.2 ⟨(List.nodup_cons.1 aad).2,t1.Ug,λa ha c hc e=>hEd a (abT a ha) (e ▸ hc)⟩;have hcl:cs.toList.length=cap * iM P e:=by simpa using k4
   have hrl:rows.length * iM P e<=cs.toList.length:=by rw[hcl];exact Nat.mul_le_mul_right _ k2
   have k5':wE (aX w) (Gh U w G1) fl (iM P e) rows cs.toList N':=by
    cases fl with
    |true=>exact k5
    |false=>exact k5
   by_cases hroom:rows.length+ys.length<=cap
   ·
    have hrun:=run_append_fits (ty:=ry) hu hty' hi hsrc k3 hroom (by rw[k4,hsz]);rw[<-hsz] at hrun;have hh:=setRow_heap w b cs (splice cs.toList (rows.length * iM P e) news).toArray T (0,0) k3;have hfit:rows.length * iM P e+news.length<=cs.toList.length:=by rw[hnl,hcl,<-Nat.add_mul];exact Nat.mul_le_mul_right _ hroom
    have hoth:∀k,k≠b->aX (w.setRow b (splice cs.toList (rows.length * iM P e) news).toArray) k=aX w k:=λk hk=>setRow_other w b k _ hk
    have hsz2:(w.setRow b (splice cs.toList (rows.length * iM P e) news).toArray).heap.size=w.heap.size:=by simp[World.setRow]
    have hbN:b ∉ N'++G1.E:=by
     intro hx;simp only[List.mem_append] at hx;rcases hx with hx|hx
     ·exact(List.nodup_cons.1 aad).1 hx
     ·exact hEd b WH hx
    refine fin _ (.slice (some ⟨b,0,none⟩) (rows.length+ys.length) cap) (b::(N'++G1.E)) (Fq WH) (List.nodup_cons.2 ⟨hbN,akW⟩) ?_ ?_ (by rw[k1];exact hrun) ⟨_,_,_,rfl⟩
    ·intro k hk;rw[hsz2];simp only[List.mem_cons,List.mem_append] at hk;rcases hk with rfl|hk|hk
     ·exact⟨.inl WH,(t1.lt _ (.inr ⟨r,WH⟩)).1⟩
     ·exact⟨.inl (abT k hk),(t1.lt _ (.inr ⟨r,abT k hk⟩)).1⟩
     ·exact⟨.inr (.inl hk),(t1.lt _ (.inl hk)).1⟩
    ·intro h' hv;refine .inr ⟨b,cap,_,T,N'++G1.E,by simp,by simpa using hroom,hh, ?_, ?_,rfl⟩
     ·have:=rO (l:=cs.toList) (xs:=news) (o:=rows.length * iM P e) hfit;simp only[List.size_toArray];rw[this,hcl]
     ·have h1:=AZ (H':=aX (w.setRow b (splice cs.toList (rows.length * iM P e) news).toArray)) hv (λk hk=>hoth k (λe=>hbN (by rw[<-e];simp[hk]))) k5';have h2:=AZ (H':=aX (w.setRow b (splice cs.toList (rows.length * iM P e) news).toArray)) hv (λk hk=>hoth k (λe=>hbN (by rw[<-e];simp[hk]))) hrows;have h3:=Pv (DW (cs':=splice cs.toList (rows.length * iM P e) news) (by
       simp only[splice,BD];rw[List.take_append_of_le_length (by simp;omega),List.take_take,Nat.min_self]) h1) (DW (cs':=(splice cs.toList (rows.length * iM P e) news).drop (rows.length * iM P e)) (by
       simp only[splice,BD];rw[List.drop_append_of_le_length (by simp;omega)];have:(cs.toList.take (rows.length * iM P e)).drop (rows.length * iM P e)=[]:=by simp
       rw[this,List.nil_append,List.take_append_of_le_length au]) h2)
      cases fl with
      |true=>simpa[wE] using h3
      |false=>simpa[wE] using h3
   ·
    have hlt:cap<rows.length+ys.length:=au;obtain⟨cap',hcap',hrun⟩:=SG (ty:=ry) (olds:=cs.toList.take (rows.length * iM P e)) hu hty' hi hzv hsrc (by rw[MW,<-hsz];omega) (λj u hj=>by
     rw[List.getElem?_take] at hj;split at hj
     ·have:=full_cell (w:=w) k3 (0+j);rw[Nat.zero_add] at this|-;rw[hj] at this;exact this
     ·cases hj) hlt hb2 hb1
    have hkeep:Keep [] w (w.drew.alloc (.cells ((cs.toList.take (rows.length * iM P e)++news).toArray++Builtin.zeroCells zv.cells (cap' - (rows.length+ys.length))) e)):=JL Mc;have hsize:(w.drew.alloc (.cells ((cs.toList.take (rows.length * iM P e)++news).toArray++Builtin.zeroCells zv.cells (cap' - (rows.length+ys.length))) e)).heap.size=w.heap.size+1:=by rw[World.size_alloc];rfl
    have atU:w.heap.size ∉ N'++G1.E:=λhE=>by
     simp only[List.mem_append] at hE;rcases hE with hE|hE
     ·have:=(t1.lt _ (.inr ⟨r,abT _ hE⟩)).1;omega
     ·have:=(t1.lt _ (.inl hE)).1;omega
    refine fin _ (.slice (some ⟨w.heap.size,0,none⟩) (rows.length+ys.length) cap') (w.heap.size::(N'++G1.E)) (Qp hkeep (by simp)) (List.nodup_cons.2 ⟨atU,akW⟩) ?_ ?_ (by rw[k1];exact hrun) ⟨_,_,_,rfl⟩
    ·intro k hk;rw[hsize];simp only[List.mem_cons,List.mem_append] at hk;rcases hk with rfl|hk|hk
     ·exact⟨.inr (.inr (Nat.le_refl _)),au⟩
     ·exact⟨.inl (abT k hk),by have:=(t1.lt _ (.inr ⟨r,abT k hk⟩)).1;omega⟩
     ·exact⟨.inr (.inl hk),by have:=(t1.lt _ (.inl hk)).1;omega⟩
    ·intro h' hv;refine .inr ⟨w.heap.size,cap',_,e,N'++G1.E,by simp,by simpa using hcap',Jc rfl, ?_, ?_,rfl⟩
     ·rw[Array.size_append,JM hzs];simp only[List.size_toArray,ZP,MW,hnl];rw[Nat.min_eq_left hrl,<-Nat.add_mul,<-Nat.add_mul];congr 1;omega
     ·have h1:=AZ hv (λb hb=>hkeep.block b (t1.lt b (.inr ⟨r,abT b hb⟩)).1 (by simp)) k5';have h2:=AZ hv (λb hb=>hkeep.block b (t1.lt b (.inl hb)).1 (by simp)) hrows;have l1:(cs.toList.take (rows.length * iM P e)).length=rows.length * iM P e:=by rw[MW];omega
      have h3:=Pv (DW (cs':=((cs.toList.take (rows.length * iM P e)++news).toArray++Builtin.zeroCells zv.cells (cap' - (rows.length+ys.length))).toList) (by
       simp only[Array.toList_append,BD];rw[List.take_append_of_le_length au,List.take_take,Nat.min_self]) h1) (DW (cs':=(((cs.toList.take (rows.length * iM P e)++news).toArray++Builtin.zeroCells zv.cells (cap' - (rows.length+ys.length))).toList).drop (rows.length * iM P e)) (by
       simp only[Array.toList_append,BD];rw[List.drop_append_of_le_length au,List.drop_eq_nil_of_le au,List.nil_append,List.take_append_of_le_length au]) h2)
      cases fl with
      |true=>exact h3
      |false=>exact h3
 |d _=>exact(ak h).elim
 |ptr _ _=>exact(ak h).elim
 |lI _ _ _ _=>exact(ak h).elim
 |lS _ _=>exact(ak h).elim
 |sG _=>exact(ak h).elim
 |clo _ _ _=>exact(ak h).elim
 |agg _=>exact(ak h).elim
 |Gz _=>exact(ak h).elim
 |undef=>exact(ak h).elim
end
end Go.Vm
namespace Go.Vm
open Go
section
variable {base:Nat} {U:Nat->Prop} {M0:List Nat} {w0 w w':World} {m m':Mem} {G G':GS} {P:Program}
def WO(hA:At base U M0 w0 w m G){T f:Nat}{a:V}{ga:Value}(ha:aC G.μ m (Gh U w G) a ga){v:V}{l l':Log}(h:(NK P T a f).run m l=some (v,m',l')):
  x8 base U M0 w0 w m G P (Instr.fieldAt T ga f) v m':=by
 simp only[NK] at h;replace h:=ah h;obtain⟨⟨o,n,t⟩,m1,l1,h1,h⟩:=h;obtain⟨hf,rfl,rfl⟩:=dn h1;simp only at h;replace h:=ah h;obtain⟨_,m2,l2,h2,h⟩:=h;obtain⟨hn,rfl,rfl⟩:=bG h2;have hn:=Nat.le_of_ble_eq_true hn;cases a with
 |ptr r off=>
  simp only[run_pure,dG,eH] at h;obtain⟨rfl,rfl,_⟩:=h;simp only[aC] at ha;obtain⟨⟨b,o',rfl⟩,ha⟩:=ha;refine x8.same hA (KW hf hn) ?_;simp only[aC];refine⟨⟨_,_,rfl⟩, ?_⟩;split at ha
  ·obtain⟨b1,hμ,e⟩:=ha;simp only[Value.pointer.injEq,dG,Addr.mk.injEq] at e;obtain⟨rfl,rfl,_⟩:=e;exact⟨_,hμ,rfl⟩
  ·obtain⟨b1,hμ,e⟩:=ha;simp only[Value.pointer.injEq,dG,Addr.mk.injEq] at e;obtain⟨rfl,rfl,_⟩:=e;exact⟨_,hμ,rfl⟩
  ·trivial
  ·exact ha
 |sG _=>exact(ak h).elim
 |lS row off=>simp only[run_pure,dG,eH] at h;obtain⟨rfl,rfl,_⟩:=h;simp only[aC] at ha;obtain⟨b,o',rfl,hrow⟩:=ha;refine x8.same hA (KW hf hn) ?_;simp only[aC];exact⟨b,o',by rw[Nat.add_assoc],hrow⟩
 |lI r ver i off=>
  simp only[run_pure,dG,eH] at h;obtain⟨rfl,rfl,_⟩:=h;simp only[aC] at ha;obtain⟨⟨b,o',rfl⟩,ha⟩:=ha;refine x8.same hA (KW hf hn) ?_;simp only[aC];refine⟨⟨_,_,rfl⟩, ?_⟩;split at ha
  ·refine⟨ha.1,λe=> ?_⟩;obtain⟨b1,n1,cap,hμ,e1⟩:=ha.2 e;simp only[Value.pointer.injEq,dG,Addr.mk.injEq] at e1;obtain⟨rfl,rfl,_⟩:=e1;exact⟨_,n1,cap,hμ,by rw[Nat.add_assoc]⟩
  ·trivial
  ·refine⟨ha.1,λe=> ?_⟩;obtain⟨b1,o1,n1,cap,hμ,e1⟩:=ha.2 e;simp only[Value.pointer.injEq,dG,Addr.mk.injEq] at e1;obtain⟨rfl,rfl,_⟩:=e1;exact⟨_,o1,n1,cap,hμ,by simp only[Nat.add_assoc]⟩
  ·refine⟨ha.1,λe=> ?_⟩;obtain⟨b1,n1,cap,hμ,e1⟩:=ha.2 e;simp only[Value.pointer.injEq,dG,Addr.mk.injEq] at e1;obtain⟨rfl,rfl,_⟩:=e1;exact⟨_,n1,cap,hμ,by rw[Nat.add_assoc]⟩
  ·exact ha
 |d _=>exact(ak h).elim
 |nil _=>exact(ak h).elim
 |own _ _=>exact(ak h).elim
 |clo _ _ _=>exact(ak h).elim
 |agg _=>exact(ak h).elim
 |Gz _=>exact(ak h).elim
 |undef=>exact(ak h).elim
def adZ(hA:At base U M0 w0 w m G){T f:Nat}{a:V}{ga:Value}(ha:aC G.μ m (Gh U w G) a ga){v:V}{l l':Log}(h:(abA P T a f).run m l=some (v,m',l')):
  x8 base U M0 w0 w m G P (Instr.field T ga f) v m':=by
 simp only[abA] at h;replace h:=ah h;obtain⟨⟨o,n,t⟩,m1,l1,h1,h⟩:=h;obtain⟨hf,rfl,rfl⟩:=dn h1;simp only at h;cases a with
 |agg cs=>
  simp only at h;replace h:=ah h;obtain⟨_,m2,l2,h2,h⟩:=h;obtain⟨hfit,rfl,rfl⟩:=bG h2;replace h:=ah h;obtain⟨_,m2,l2,h2,h⟩:=h;obtain⟨hok,rfl,rfl⟩:=bG h2;obtain⟨hv,rfl,rfl⟩:=dn h;simp only[aC] at ha;obtain⟨arr,rfl,hs⟩:=ha;have hfit:=Nat.le_of_ble_eq_true hfit;have hp:=Uw o n hs;have hal:arr.size=cs.length:=by simpa using eP hs
  obtain⟨g,hg⟩:=Xv hv hp;refine x8.same hA (g:=g) ?_ (AV hv hp hg);unfold JA at hf;cases hu:P.underlying T with
  |none=>simp[hu] at hf
  |some d=>
   rw[hu] at hf;cases d with
   |struct fs=>
    simp only at hf;cases hfd:fs[f]? with
    |none=>simp[hfd] at hf
    |some fd=>
     simp only[hfd,dG,eH] at hf;obtain⟨rfl,rfl,rfl⟩:=hf;obtain⟨d',hd'⟩:=qx hok;obtain⟨i,hi⟩:=nO hd';unfold Instr.field;simp only[Sem.run_bind,run_underlying hu,Result.andThen_ok,hfd];unfold Go.part;simp only[Sem.run_bind,asAgg,Sem.run_pure,Result.andThen_ok,Ja hd'];unfold valOf at hg;cases hag:xZ P fd.type with
     |true=>
      simp only[hag,if_true] at hg;subst hg;rw[wZ hi];have hex:arr.extract fd.offset (fd.offset+i.size)=(List.take i.size (List.drop fd.offset arr.toList)).toArray:=by apply Array.ext';simp[Array.toList_extract,List.extract_eq_take_drop]
      simp[sizeOf,typeInfo,hi,hex]
     |false=>
      simp only[hag,Bool.false_eq_true,if_false] at hg;have h0:arr[fd.offset]? =some g:=by
       have:(List.take (iM P fd.type) (List.drop fd.offset arr.toList))[0]? =some g:=by rw[hg];rfl
       rw[List.getElem?_take] at this;split at this
       ·rw[List.getElem?_drop,Nat.add_zero] at this;simpa using this
       ·cases this
      simp[h0]
   |_=>simp at hf
 |d _=>exact(ak h).elim
 |nil _=>exact(ak h).elim
 |own _ _=>exact(ak h).elim
 |ptr _ _=>exact(ak h).elim
 |lI _ _ _ _=>exact(ak h).elim
 |lS _ _=>exact(ak h).elim
 |sG _=>exact(ak h).elim
 |clo _ _ _=>exact(ak h).elim
 |Gz _=>exact(ak h).elim
 |undef=>exact(ak h).elim
def La{α:Type}{l:List α}{i:Int}{x:α}(h:idx l i=some x):0<=i/\i.toNat<l.length/\l[i.toNat]? =some x:=by
 unfold idx at h
 by_cases h0:0<=i
 ·simp only[h0,decide_true,bZ] at h;exact⟨h0,(FK.1 h).1,h⟩
 ·simp[h0] at h
def WQ(hA:At base U M0 w0 w m G){t:TypeId}{x i:V}{gx gi:Value}(hx:aC G.μ m (Gh U w G) x gx)(hi:aC G.μ m (Gh U w G) i gi){v:V}{l l':Log}(h:(NM P t x i).run m l=some (v,m',l')):
  x8 base U M0 w0 w m G P (Instr.indexAt t gx gi) v m':=by
 simp only[NM] at h;replace h:=ah h;obtain⟨e,m1,l1,h1,h⟩:=h;obtain⟨he,rfl,rfl⟩:=dn h1;cases i with
 |d xi=>
  cases xi with
  |int k n=>
   simp only at h;simp only[aC,ro] at hi;subst hi;have seen:∀(rows:List Row) (o:Bool),ro (Gh U w G) (.sl o (iM P e) rows) gx->∀row,idx rows n=some row->1<=iM P e\/True->(∃inf,P.info? e=some inf)->x8 base U M0 w0 w m1 G P (Instr.indexAt t gx (.int k n)) (.lS row 0) m1:=by intro rows o hq row hrow _ wC;obtain⟨inf,wC⟩:=wC;obtain⟨h0,hlt,hget⟩:=La hrow;simp only[ro] at hq;obtain⟨a,cap,rfl,hcap,hne⟩:=hq;obtain⟨b,o',rfl,hrows⟩:=hne (by intro e;subst e;simp at hlt);obtain⟨hl,hr⟩:=AX hrows hget;refine x8.same hA (run_indexAt he wC h0 au) ?_;simp only[aC];rw[<-wZ wC];exact⟨b,o'+n.toNat * iM P e,rfl,hr⟩
   cases x with
   |d y=>
    cases y with
    |sl o s rows=>simp only at h;replace h:=ah h;obtain⟨_,m2,l2,h2,h⟩:=h;obtain⟨hs,rfl,rfl⟩:=bG h2;replace h:=ah h;obtain⟨_,m2,l2,h2,h⟩:=h;obtain⟨hok,rfl,rfl⟩:=bG h2;replace h:=ah h;obtain⟨row,m2,l2,h2,h⟩:=h;obtain⟨hrow,rfl,rfl⟩:=dn h2;simp only[run_pure,dG,eH] at h;obtain⟨rfl,rfl,_⟩:=h;have hs:=lq hs;subst hs;simp only[aC] at hx;obtain⟨d',hd'⟩:=qx hok;exact seen rows o hx row hrow (.inr trivial) (nO hd')
    |int _ _=>exact(ak h).elim
    |bool _=>exact(ak h).elim
    |str _=>exact(ak h).elim
    |GL=>exact(ak h).elim
   |own r ver=>
    simp only at h;replace h:=ah h;obtain⟨c,m2,l2,h2,h⟩:=h;rw[jV] at h2;cases h2;cases hc:get r m1 with
    |none=>rw[hc] at h;exact(ak h).elim
    |some c=>
     rw[hc] at h;cases c with
     |box _ _=>exact(ak h).elim
     |dead=>exact(ak h).elim
     |jM _ _=>exact(ak h).elim
     |jB dP s rows i0 o0=>simp only at h;replace h:=ah h;obtain⟨_,m2,l2,h2,h⟩:=h;obtain⟨hb,rfl,rfl⟩:=iG h2;have hb:=lq hb;subst hb;replace h:=ah h;obtain⟨_,m2,l2,h2,h⟩:=h;obtain⟨hs,rfl,rfl⟩:=iG h2;have hs:=lq hs;subst hs;replace h:=ah h;obtain⟨_,m2,l2,h2,h⟩:=h;obtain⟨hok,rfl,rfl⟩:=iG h2;obtain⟨d',hd'⟩:=qx hok;obtain⟨inf,wC⟩:=nO hd';simp only[aC,hc] at hx;have hx:=hx.2.2 trivial;subst hx;obtain⟨b,cap,_,_,_,_,_,_,hμ,hl,_⟩:=hA.ok.cell r _ hc (by rw[hA.out];simp);replace h:=ah h;obtain⟨row,m2,l2,h2,h⟩:=h;obtain⟨hrow,rfl,rfl⟩:=dn h2;simp only[run_pure,dG,eH] at h;obtain⟨rfl,rfl,_⟩:=h;obtain⟨h0,hlt,hget⟩:=La hrow;rw[hμ];refine x8.same hA (run_indexAt he wC h0 au) ?_;simp only[aC,hc,hμ];exact⟨⟨_,_,rfl⟩,Nat.le_refl _,λ_=>⟨b,_,_,rfl,by rw[wZ wC];simp⟩⟩
     |xk dP s rows=>simp only at h;replace h:=ah h;obtain⟨_,m2,l2,h2,h⟩:=h;obtain⟨hb,rfl,rfl⟩:=iG h2;have hb:=lq hb;subst hb;replace h:=ah h;obtain⟨_,m2,l2,h2,h⟩:=h;obtain⟨hs,rfl,rfl⟩:=iG h2;have hs:=lq hs;subst hs;replace h:=ah h;obtain⟨_,m2,l2,h2,h⟩:=h;obtain⟨hok,rfl,rfl⟩:=iG h2;obtain⟨d',hd'⟩:=qx hok;obtain⟨inf,wC⟩:=nO hd';simp only[aC,hc] at hx;have hx:=hx.2.2 trivial;subst hx;have hcell:=hA.ok.cell r _ hc (by rw[hA.out];simp);replace h:=ah h;obtain⟨row,m2,l2,h2,h⟩:=h;obtain⟨hrow,rfl,rfl⟩:=dn h2;simp only[run_pure,dG,eH] at h;obtain⟨rfl,rfl,_⟩:=h;obtain⟨h0,hlt,hget⟩:=La hrow;obtain⟨b,o,cap,hμ,hl,_⟩:=ac9 hcell hget;rw[hμ];refine x8.same hA (run_indexAt he wC h0 au) ?_;simp only[aC,hc,hμ];exact⟨⟨_,_,rfl⟩,Nat.le_refl _,λ_=>⟨b,o,_,_,rfl,by rw[wZ wC];simp⟩⟩
     |arr fz fl dP s rows=>
      simp only at h;replace h:=ah h;obtain⟨_,m2,l2,h2,h⟩:=h;obtain⟨hb,rfl,rfl⟩:=iG h2;have hb:=lq hb;subst hb;replace h:=ah h;obtain⟨_,m2,l2,h2,h⟩:=h;obtain⟨hs,rfl,rfl⟩:=iG h2;have hs:=lq hs;subst hs;replace h:=ah h;obtain⟨_,m2,l2,h2,h⟩:=h;obtain⟨hok,rfl,rfl⟩:=iG h2;obtain⟨d',hd'⟩:=qx hok;obtain⟨inf,wC⟩:=nO hd';simp only[aC,hc] at hx;have hx:=hx.2.2 trivial;subst hx;have hcell:=hA.ok.cell r _ hc (by rw[hA.out];simp);cases fz with
      |true=>simp only at h;replace h:=ah h;obtain⟨row,m2,l2,h2,h⟩:=h;obtain⟨hrow,rfl,rfl⟩:=dn h2;simp only[run_pure,dG,eH] at h;obtain⟨rfl,rfl,_⟩:=h;exact seen (vw fl rows) false (Ui hcell.1) row hrow (.inr trivial) ⟨inf,wC⟩
      |false=>simp only at h;replace h:=ah h;obtain⟨row,m2,l2,h2,h⟩:=h;obtain⟨hrow,rfl,rfl⟩:=dn h2;simp only[run_pure,dG,eH] at h;obtain⟨rfl,rfl,_⟩:=h;obtain⟨h0,hlt,hget⟩:=La hrow;obtain⟨b,o,cap,hμ,ho,hl,_⟩:=ac8 hcell (kS _ _ _) hget;have ho:=ho rfl;subst ho;rw[hμ];refine x8.same hA (run_indexAt he wC h0 au) ?_;simp only[aC,hc,hμ];exact⟨⟨_,_,rfl⟩,Nat.le_refl _,λ_=>⟨b,_,_,rfl,by rw[wZ wC];simp⟩⟩
   |nil _=>exact(ak h).elim
   |ptr _ _=>exact(ak h).elim
   |lI _ _ _ _=>exact(ak h).elim
   |lS _ _=>exact(ak h).elim
   |sG _=>exact(ak h).elim
   |clo _ _ _=>exact(ak h).elim
   |agg _=>exact(ak h).elim
   |Gz _=>exact(ak h).elim
   |undef=>exact(ak h).elim
  |bool _=>exact(ak h).elim
  |str _=>exact(ak h).elim
  |GL=>exact(ak h).elim
  |sl _ _ _=>exact(ak h).elim
 |nil _=>exact(ak h).elim
 |own _ _=>exact(ak h).elim
 |ptr _ _=>exact(ak h).elim
 |lI _ _ _ _=>exact(ak h).elim
 |lS _ _=>exact(ak h).elim
 |sG _=>exact(ak h).elim
 |clo _ _ _=>exact(ak h).elim
 |agg _=>exact(ak h).elim
 |Gz _=>exact(ak h).elim
 |undef=>exact(ak h).elim
def aae{t e:TypeId}{n:Nat}(h:arT P t=some (n,e)):P.underlying t=some (.array n e):=by
 unfold arT at h;cases hu:P.underlying t with
 |none=>simp[hu] at h
 |some d=>rw[hu] at h;cases d<;>simp at h;obtain⟨rfl,rfl⟩:=h;rfl
def Py{t e:TypeId}{k:IntKind}{i:Int}{b o n:Nat}(hu:P.underlying t=some (.array n e)){inf:TypeInfo}(hi:P.info? e=some inf)(h0:0<=i)(hn:i<n):
  (Instr.indexAt t (.pointer (some ⟨b,o,none⟩)) (.int k i)).run P w=.ok (.pointer (some ⟨b,o+i.toNat * inf.size,none⟩)) w:=by
 have hc:0<=i/\i<(n:Int):=⟨h0,hn⟩
 unfold Instr.indexAt;simp[asIntOf,run_underlying hu,hc,sizeOf,typeInfo,hi,BN,Instr.sureAddr]
def WR(hA:At base U M0 w0 w m G){t:TypeId}{x i:V}{gx gi:Value}(hx:aC G.μ m (Gh U w G) x gx)(hi:aC G.μ m (Gh U w G) i gi){v:V}{l l':Log}(h:(NP P t x i).run m l=some (v,m',l')):
  x8 base U M0 w0 w m G P (Instr.indexAt t gx gi) v m':=by
 unfold NP at h;cases ha:arT P t with
 |none=>rw[ha] at h;exact WQ hA hx hi h
 |some q=>
  obtain⟨n,e⟩:=q;rw[ha] at h;have hu:=aae ha;cases i<;>try exact(ak h).elim
  rename_i y;cases y<;>try exact(ak h).elim
  rename_i k j;simp only[aC,ro] at hi;subst hi;simp only[ZV] at h;replace h:=ah h;obtain⟨_,m1,l1,h1,h⟩:=h;obtain⟨hok,rfl,rfl⟩:=bG h1;replace h:=ah h;obtain⟨_,m1,l1,h1,h⟩:=h;obtain⟨hj,rfl,rfl⟩:=bG h1;simp only[su,decide_eq_true_eq] at hj;obtain⟨d',hd'⟩:=qx hok;obtain⟨inf,wC⟩:=nO hd';have hsz:=wZ wC;cases x<;>try exact(ak h).elim
  ·rename_i r off;simp only[run_pure,dG,eH] at h;obtain⟨rfl,rfl,_⟩:=h;simp only[aC] at hx;obtain⟨⟨b,o,rfl⟩,hx⟩:=hx;refine x8.same hA (Py hu wC hj.1 hj.2) ?_;simp only[aC];refine⟨⟨b,_,rfl⟩, ?_⟩;cases hc:get r m1 with
   |none=>rw[hc] at hx;exact hx.elim
   |some c=>
    rw[hc] at hx;cases c with
    |jB _ _ _ _ _=>exact hx.elim
    |box T cs=>obtain⟨b',h1,h2⟩:=hx;simp only[Value.pointer.injEq,dG,Addr.mk.injEq] at h2;obtain⟨rfl,rfl,_⟩:=h2;exact⟨b,h1,by rw[hsz]⟩
    |jM T cs=>obtain⟨b',h1,h2⟩:=hx;simp only[Value.pointer.injEq,dG,Addr.mk.injEq] at h2;obtain⟨rfl,rfl,_⟩:=h2;exact⟨b,h1,by rw[hsz]⟩
    |arr _ _ _ _ _=>exact hx.elim
    |dead=>trivial
    |xk _ _ _=>exact hx.elim
  ·rename_i row off;simp only[run_pure,dG,eH] at h;obtain⟨rfl,rfl,_⟩:=h;simp only[aC] at hx;obtain⟨b,o,rfl,hr⟩:=hx;refine x8.same hA (Py hu wC hj.1 hj.2) ?_;simp only[aC];exact⟨b,o,by rw[hsz,Nat.add_assoc],hr⟩
def XB{μ:Nat->Value}{mm:Mem}{hh:View}:∀{cs:List V} {row:Row} {gs:List Value},Xh cs=some row->bD μ mm hh cs gs->∀i:Nat,i<cs.length->∃g,gs[i]? =some g/\ro hh (nth row i) g
 |[],row,gs,h,q,i,hi=>by simp at hi
 |v::cs,row,gs,h,q,i,hi=>by
  simp only[bD] at q;obtain⟨g,gs',rfl,q1,q2⟩:=q;cases v<;>simp only[Xh] at h<;>try cases h
  rename_i x;cases hr:Xh cs with
  |none=>rw[hr] at h;cases h
  |some r=>
   rw[hr] at h;cases h;cases i with
   |zero=>exact⟨g,rfl,by simpa[nth,aC] using q1⟩
   |succ i=>obtain⟨g',h1,h2⟩:=XB hr q2 i (by simpa using hi);exact⟨g',by simpa using h1,by simpa[nth] using h2⟩
def YR(hA:At base U M0 w0 w m G){t e:TypeId}{n:Nat}{k:IntKind}{j:Int}{cs:List V}{gx:Value}(hu:P.underlying t=some (.array n e))(hx:aC G.μ m (Gh U w G) (.agg cs) gx){v:V}{l l':Log} (h:(do
  ck (Nat.beq (iM P e) 1 &&(Nat.beq cs.length n &&(KF P e && !(xZ P e))))
  ck (decide (0<=j) && decide (j<(n:Int)))
  let row<-op' (Xh cs)
  TV (match BG P e with|[c]=>c|_=> .other) row j.toNat:Acc V).run m l=some (v,m',l')):
  x8 base U M0 w0 w m G P (Instr.index t gx (.int k j)) v m':=by
 replace h:=ah h;obtain⟨_,m1,l1,h1,h⟩:=h;obtain⟨hk,rfl,rfl⟩:=bG h1;simp only[su,Bool.not_eq_true',Nat.beq_eq] at hk;obtain⟨hsz,hlen,hok,hagg⟩:=hk;replace h:=ah h;obtain⟨_,m1,l1,h1,h⟩:=h;obtain⟨hj,rfl,rfl⟩:=bG h1;simp only[su,decide_eq_true_eq] at hj;replace h:=ah h;obtain⟨row,m1,l1,h1,h⟩:=h;obtain⟨hrow,rfl,rfl⟩:=dn h1;simp only[aC] at hx;obtain⟨arr,rfl,hs⟩:=hx;obtain⟨g,hg,hr⟩:=XB hrow hs j.toNat au;obtain⟨d',hd'⟩:=qx hok;obtain⟨inf,wC⟩:=nO hd';have hone:=wZ wC;have hrun:(Instr.index t (.agg arr) (.int k j)).run P w=.ok g w:=by
  unfold Instr.index;have hg':arr[j.toNat * inf.size]? =some g:=by rw[<-hone,hsz,Nat.mul_one];simpa using hg
  simp[asIntOf,run_underlying hu,hj.1,hj.2,sizeOf,typeInfo,wC];unfold Go.part;simp[Ja hd',hagg,hg']
 have fin:v=.d (nth row j.toNat)/\m'=m1:=by
  generalize (match BG P e with|[c]=>c|_=>CT.other)=c at h;cases hx:nth row j.toNat<;>cases c<;>simp[TV,gW,Xg,cStr,hx,asInt,asBool,Xf,Acc.run] at h
  ·rename_i k1 n1 k2
   by_cases e:k1=k2
   ·subst e;simp[Acc.run] at h;exact⟨h.1.symm,h.2.1.symm⟩
   ·simp[e,Acc.run] at h
  ·exact⟨h.1.symm,h.2.1.symm⟩
  ·exact⟨h.1.symm,h.2.1.symm⟩
 obtain⟨rfl,rfl⟩:=fin;exact x8.same hA hrun (by simpa[aC] using hr)
end
end Go.Vm
namespace Go.Vm
open Go
section
variable {base:Nat} {U:Nat->Prop} {M0:List Nat} {w0 w w':World} {m m':Mem} {G G':GS} {P:Program}
def ad1(hA:At base U M0 w0 w m G){t:TypeId}{x i:V}{gx gi:Value}(hx:aC G.μ m (Gh U w G) x gx)(hi:aC G.μ m (Gh U w G) i gi){v:V}{l l':Log}(h:(abB P t x i).run m l=some (v,m',l')):
  x8 base U M0 w0 w m G P (Instr.index t gx gi) v m':=by
 unfold abB at h;cases hu:P.underlying t with
 |none=>rw[hu] at h;exact(ak h).elim
 |some d=>
  rw[hu] at h
  by_cases harr:∃n e,d=.array n e
  ·obtain⟨n,e,rfl⟩:=harr;cases x<;>try exact(ak h).elim
   cases i<;>try exact(ak h).elim
   rename_i y;cases y<;>try exact(ak h).elim
   simp only[aC,ro] at hi;subst hi;exact YR hA hu hx h
  cases d<;>first|exact(ak h).elim|exact(harr ⟨_,_,rfl⟩).elim|skip
  cases x<;>try exact(ak h).elim
  rename_i y;cases y<;>try exact(ak h).elim
  rename_i s;cases i<;>try exact(ak h).elim
  rename_i y;cases y<;>try exact(ak h).elim
  rename_i k n;simp only[aC,ro] at hx hi;subst hx hi;dsimp only at h;cases hb:idx s n with
  |none=>rw[hb] at h;simp[Acc.run] at h
  |some b=>
   rw[hb] at h;change some (_,_,_)=_ at h;simp only[dG,eH] at h;obtain⟨rfl,rfl,_⟩:=h;obtain⟨h0,hlt,hget⟩:=La hb;refine x8.same hA (g:=.int .u8 b.toNat) ?_ (by simp[aC,ro]);have hg:(ByteArray.mk ⟨s⟩)[n.toNat]? =some b:=by
    have hsz:n.toNat<(ByteArray.mk ⟨s⟩).size:=hlt;rw[getElem?_pos (ByteArray.mk ⟨s⟩) n.toNat hsz];have:s[n.toNat]=b:=by have:=List.getElem?_eq_getElem hlt;rw[this] at hget;exact Option.some.inj hget
    exact congrArg some this
   simp[Instr.index,asIntOf,run_underlying hu,h0,hg]
def ahE(hA:At base U M0 w0 w m G){t ty:TypeId}{x:V}{gx:Value}(hx:aC G.μ m (Gh U w G) x gx)
  (hk:∀s,x=.d (.str s)->P.underlying t=some .string) (hk':(∀s,x≠.d (.str s))->∃e,P.underlying t=some (.slice e)) {v:V} {l l':Log} (h:(lenV x).run m l=some (v,m',l')):
  x8 base U M0 w0 w m G P (Builtin.len_ #[t] ty #[gx]) v m':=by
 have slice:∀(a:Option Addr) (n c:Nat),(∃e,P.underlying t=some (.slice e))->x8 base U M0 w0 w m G P (Builtin.len_ #[t] ty #[.slice a n c]) (.d (.int .i64 n)) m:=by intro a n c ⟨e,he⟩;refine x8.same hA (g:=.int .i64 n) ?_ (by simp[aC,ro]);simp[Builtin.len_,run_underlying he,goInt]
 cases x with
 |d y=>
  cases y with
  |str s=>change some (_,_,_)=_ at h;simp only[dG,eH] at h;obtain⟨rfl,rfl,_⟩:=h;simp only[aC,ro] at hx;subst hx;refine x8.same hA (g:=.int .i64 s.length) ?_ (by simp[aC,ro]);have hsz:(ByteArray.mk ⟨s⟩).size=s.length:=rfl;simp[Builtin.len_,run_underlying (hk s rfl),goInt,hsz]
  |sl o s rows=>change some (_,_,_)=_ at h;simp only[dG,eH] at h;obtain⟨rfl,rfl,_⟩:=h;simp only[aC,ro] at hx;obtain⟨a,cap,rfl,_⟩:=hx;exact slice a rows.length cap (hk' (by simp))
  |int _ _=>exact(ak h).elim
  |bool _=>exact(ak h).elim
  |GL=>exact(ak h).elim
 |nil s=>change some (_,_,_)=_ at h;simp only[dG,eH] at h;obtain⟨rfl,rfl,_⟩:=h;simp only[aC] at hx;subst hx;exact slice none 0 0 (hk' (by simp))
 |own r ver=>
  simp only[lenV] at h;replace h:=ah h;obtain⟨c,m2,l2,h2,h⟩:=h;rw[jV] at h2;cases h2;cases hc:get r m with
  |none=>rw[hc] at h;exact(ak h).elim
  |some c=>
   rw[hc] at h;cases c with
   |box _ _=>exact(ak h).elim
   |dead=>exact(ak h).elim
   |jM _ _=>exact(ak h).elim
   |jB _ _ _ _ _=>exact(ak h).elim
   |xk dP s rows=>
    simp only at h;replace h:=ah h;obtain⟨_,m2,l2,h2,h⟩:=h;obtain⟨hb,rfl,rfl⟩:=iG h2;have hb:=lq hb;subst hb;simp only[run_pure,dG,eH] at h;obtain⟨rfl,rfl,_⟩:=h;have hcell:=hA.ok.cell r _ hc (by rw[hA.out];simp);simp only[aC,hc] at hx;have hx:=hx.2.2 trivial;subst hx;rcases hcell with⟨rfl,hμ,_⟩|⟨b,o,cap,cs,T,hμ,_⟩
    ·rw[hμ];exact slice none 0 0 (hk' (by simp))
    ·rw[hμ];exact slice _ rows.length cap (hk' (by simp))
   |arr fz fl dP s rows=>simp only at h;replace h:=ah h;obtain⟨_,m2,l2,h2,h⟩:=h;obtain⟨hb,rfl,rfl⟩:=iG h2;have hb:=lq hb;subst hb;simp only[run_pure,dG,eH] at h;obtain⟨rfl,rfl,_⟩:=h;have hro:=hA.ok.look hc (by rw[hA.out];simp) false;simp only[aC,hc] at hx;rw[<-hx.2.2 trivial] at hro;simp only[ro] at hro;obtain⟨a,cap,rfl,_⟩:=hro;exact slice a rows.length cap (hk' (by simp))
 |ptr _ _=>exact(ak h).elim
 |lI _ _ _ _=>exact(ak h).elim
 |lS _ _=>exact(ak h).elim
 |sG _=>exact(ak h).elim
 |clo _ _ _=>exact(ak h).elim
 |agg _=>exact(ak h).elim
 |Gz _=>exact(ak h).elim
 |undef=>exact(ak h).elim
def alY{H:Heap}{h:View}{c:CT}{g:Value}{x:D}{l l':Log}(hr:(toD (Qj c g)).run m l=some (x,m',l')):m'=m/\ow H h x g []:=by
 unfold Qj at hr;split at hr
 all_goals first
  |exact(ak hr).elim
  |(simp only[toD,roD,run_pure,dG,eH] at hr
    obtain⟨rfl,rfl,_⟩:=hr;exact⟨rfl,by simp[ow]⟩)
def aaf{H:Heap}{h:View}:∀{cs:List CT} {gs:List Value} {xs:Row} {m m':Mem} {l l':Log},(BJ (xq cs gs)).run m l=some (xs,m',l')->m'=m/\dF H h xs gs []/\xs.length=gs.length
 |c::cs,g::gs,xs,m,m',l,l',hr=>by simp only[xq,BJ] at hr;replace hr:=ah hr;obtain⟨x,m1,l1,h1,hr⟩:=hr;replace hr:=ah hr;obtain⟨ys,m2,l2,h2,hr⟩:=hr;simp only[run_pure,dG,eH] at hr;obtain⟨rfl,rfl,_⟩:=hr;obtain⟨rfl,q1⟩:=alY (H:=H) (h:=h) h1;obtain⟨rfl,q2,q3⟩:=aaf (H:=H) (h:=h) h2;exact⟨rfl,by simp only[dF];exact⟨g,gs,[],[],rfl,rfl,q1,q2⟩,by simp[q3]⟩
 |[],g::gs,xs,m,m',l,l',hr=>by simp only[xq,BJ] at hr;replace hr:=ah hr;obtain⟨x,m1,l1,h1,hr⟩:=hr;exact(ak h1).elim
 |c::cs,[],xs,m,m',l,l',hr=>by simp only[xq,BJ,run_pure,dG,eH] at hr;obtain⟨rfl,rfl,_⟩:=hr;exact⟨rfl,by simp[dF],rfl⟩
 |[],[],xs,m,m',l,l',hr=>by simp only[xq,BJ,run_pure,dG,eH] at hr;obtain⟨rfl,rfl,_⟩:=hr;exact⟨rfl,by simp[dF],rfl⟩
def XC{H:Heap}{h:View}{row:Row}{z L:List Value}{cap:Nat}(hz:z.length=row.length)(hL:L.length=cap * row.length)(hj:∀i j,i<cap->j<row.length->L[i * row.length+j]? =z[j]?)(hq:dF H h row z []):
  ∀(n i:Nat),i+n<=cap->cO H h row.length (List.replicate n row) (L.drop (i * row.length)) []
 |0,i,_=>by simp[cO]
 |n+1,i,hi=>by
  rw[List.replicate_succ];simp only[cO];refine⟨trivial,[],[],rfl, ?_, ?_⟩
  ·refine AY ?_ hq;apply List.ext_getElem?;intro j
   by_cases hjl:j<row.length
   ·rw[List.getElem?_take_of_lt hjl,List.getElem?_take_of_lt hjl,List.getElem?_drop,hj i j au hjl]
   ·rw[List.getElem?_eq_none (by rw[MW];omega),List.getElem?_eq_none (by rw[MW];omega)]
  ·rw[List.drop_drop];have:=XC hz hL hj hq n (i+1) au
   rwa [Nat.add_mul,Nat.one_mul] at this
def WS(hA:At base U M0 w0 w m G){dst:Nat}{t:TypeId}{x y:V}{gx gy:Value}(hx:aC G.μ m (Gh U w G) x gx)(hy:aC G.μ m (Gh U w G) y gy){v:V}{l l':Log}(h:(NQ P dst t x y).run m l=some (v,m',l')):
  x8 base U M0 w0 w m G P (Instr.makeSlice t gx gy) v m':=by
 simp only[NQ,ZW] at h;replace h:=ah h;obtain⟨e,m1,l1,h1,h⟩:=h;obtain⟨he,rfl,rfl⟩:=dn h1;have he:=Fp he;replace h:=ah h;obtain⟨_,m1,l1,h1,h⟩:=h;obtain⟨hs,rfl,rfl⟩:=iG h1;have hs:=Nat.le_of_ble_eq_true hs;replace h:=ah h;obtain⟨row,m1,l1,h1,h⟩:=h;replace h1:=ah h1;obtain⟨z,m2,l2,h2,h1⟩:=h1;obtain⟨hz,rfl,rfl⟩:=dn h2;unfold BH at hz;cases hi:P.info? e with
 |none=>simp[hi] at hz
 |some i=>
  simp only[hi] at hz;cases hzz:i.zero with
  |none=>simp[hzz] at hz
  |some zv=>
   simp only[hzz,dG] at hz;subst hz;obtain⟨rfl,hrow,hlen⟩:=aaf (H:=aX w) (h:=Gh U w G) h1;replace h:=ah h;obtain⟨_,m2,l2,h2,h⟩:=h;obtain⟨hlr,rfl,rfl⟩:=iG h2;have hlr:=lq hlr;have hsz:=wZ hi;have hzs:zv.cells.size=i.size:=by
    have:zv.cells.toList.length=zv.cells.size:=by simp
    omega
   split at h
   next k1 n1 k2 n2=>
    replace h:=ah h;obtain⟨_,m3,l3,h3,h⟩:=h;obtain⟨hck,rfl,rfl⟩:=iG h3;simp only[su,decide_eq_true_eq] at hck;obtain⟨⟨⟨h0,hle⟩,hby⟩,hc⟩:=hck;replace h:=ah h;obtain⟨u,m4,l4,h4,h⟩:=h;simp only[run_pure,dG,eH] at h;obtain⟨rfl,rfl,_⟩:=h;simp only[aC,ro] at hx hy;subst hx hy;have hbt:GN P e=i.bytes:=by simp[GN,hi]
    rw[hbt] at hby;have hroom:(IZ:Int)=140737488355328:=rfl;rw[hroom] at hby hc;have hrun:=run_make (P:=P) w t e i zv he hi hzz k1 k2 n1 n2 h0 hle (by rw[Int.mul_comm];omega) au;have hE:=hA.E;have hrl:row.length=i.size:=au;have hq:cO (aX w) (Gh U w G) (iM P e) (List.replicate n1.toNat row) (madeCells zv.cells (n2.toNat * i.size)).toList []:=by
     rw[hsz,<-hrl];have:=XC (H:=aX w) (h:=Gh U w G) (row:=row) (z:=zv.cells.toList) (L:=(madeCells zv.cells (n2.toNat * i.size)).toList) (cap:=n2.toNat) hlen.symm (by simp[size_madeCells,hrl]) ?_ hrow n1.toNat 0 au
     ·simpa[hrl] using this
     ·intro a b ha hb;have hlt:a * row.length+b<n2.toNat * i.size:=by
       rw[hrl] at hb|-
       calc a * i.size+b<a * i.size+i.size:=au
        _=(a+1) * i.size:=by rw[Nat.add_mul,Nat.one_mul]
        _<=n2.toNat * i.size:=Nat.mul_le_mul_right _ ha
      have hbz:b<zv.cells.size:=au;have hmod:(a * row.length+b) % zv.cells.size=b:=by rw[hzs,<-hrl,Nat.mul_comm,Nat.mul_add_mod];exact Nat.mod_eq_of_lt hb
      simp only[madeCells,Array.toList_map,Array.toList_range,List.getElem?_map];rw[List.getElem?_range hlt];simp[hmod,hbz]
    have hqS:wE (aX w) (Gh U w G) (lJ P e) (iM P e) (List.replicate n1.toNat row) (madeCells zv.cells (n2.toNat * i.size)).toList G.E:=by
     unfold wE;rw[hE];split
     ·exact⟨yg (View.le_refl _) _ _ _ [] (by intro b hb;simp at hb) hq,rfl⟩
     ·exact hq
    obtain⟨G',hnx,FT⟩:=Ru hA.ok hA.out hA.fr (w1:=w) rfl (Keep.refl _ _) (cap:=n2.toNat) (T:=e) hqS (by simp;omega) (by simp[size_madeCells,hsz]) h4;refine⟨_,_,G',hrun,hnx, ?_⟩;simpa using FT
   next=>exact(ak h).elim
end
end Go.Vm
