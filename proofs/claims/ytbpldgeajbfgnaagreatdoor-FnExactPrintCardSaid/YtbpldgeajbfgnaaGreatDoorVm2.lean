import Derived.Test.YtbpldgeajbfgnaaGreatDoorVm1
import Derived.Laws.Append
import Derived.Laws.AppendOwn
import Derived.Laws.CopyRow
import Derived.Laws.Slices
import Derived.Laws.MakeOwn
import Derived.Laws.BytesString
import Derived.Great.BuildSlice
set_option linter.defProp false
set_option linter.unusedVariables false
set_option linter.unusedSimpArgs false
namespace Go.Vm
open Go
def MP(b o j:Nat):(⟨b,o,none⟩:Addr).add j=⟨b,o+j,none⟩:=by
 unfold Addr.add;split
 ·rename_i h;subst h;rfl
 ·rfl
def CS{P:Program}{t:TypeId}(h:Fb P t=true):∃d,P.underlying t=some d:=by
 unfold Fb at h;cases hu:P.underlying t with
 |none=>simp[hu] at h
 |some d=>exact⟨d,rfl⟩
def yt{P:Program}{t:TypeId}{d:TypeDesc}(h:P.underlying t=some d):∃i,P.info? t=some i:=by
 unfold Program.underlying at h;cases hi:P.info? t with
 |none=>simp[hi] at h
 |some i=>exact⟨i,rfl⟩
def JK{P:Program}{t:TypeId}{i:TypeInfo}(h:P.info? t=some i):mQ P t=i.size:=by simp[mQ,h]
section
variable {P:Program} {w:World}
def Us{t:TypeId}{d:TypeDesc}(h:P.underlying t=some d)(w:World):(isAgg t).run P w=.ok (JI P t) w:=by unfold isAgg JI;rw[Sem.run_bind,run_underlying h w,h];cases d<;>rfl
def LJ{t:TypeId}{b off:Nat}{cs:List Value}{g:Value}(hok:Fb P t=true)(hlen:cs.length=mQ P t)(hc:∀j v,cs[j]? =some v->w.cell? ⟨b,off+j,none⟩=some v)(hg:valOf P t cs g):
  (Instr.loadAt t (.pointer (some ⟨b,off,none⟩))).run P w=.ok g w:=by
 obtain⟨d,hd⟩:=CS hok;obtain⟨i,hi⟩:=yt hd;have hsz:i.size=cs.length:=by rw[hlen,JK hi]
 unfold Instr.loadAt Instr.sureAddr;simp only[Sem.run_bind,Sem.run_pure,Result.andThen_ok,loadVar,Us hd];unfold valOf at hg;cases ha:JI P t with
 |true=>simp only[ha,if_true] at hg;subst hg;have hl:=run_loadCells_list (P:=P) w ⟨b,off,none⟩ cs (λj v hv=>by rw[MP];exact hc j v hv);simp[sizeOf,typeInfo,hi,hsz,hl]
 |false=>simp only[ha,Bool.false_eq_true,if_false] at hg;subst hg;have:=hc 0 g rfl;simp only[Nat.add_zero] at this;simp[this]
def acr{t T:TypeId}{b off:Nat}{cur:Array Value}{g:Value}(hok:Fb P t=true)(hH:w.heap[b]? =some (.cells cur T (0,0)))(hlen:g.cells.size=mQ P t)(hfit:off+g.cells.size<=cur.size)(h1:∀v∈g.cells.toList,v.oneCell'=true):
  (Instr.storeAt t (.pointer (some ⟨b,off,none⟩)) g).run P w=.ok () (w.setRow b (splice cur.toList off g.cells.toList).toArray):=by
 obtain⟨d,hd⟩:=CS hok;obtain⟨i,hi⟩:=yt hd;have hsz:g.cells.size=i.size:=by rw[hlen,JK hi]
 have hst:=run_storeCells_at P b off T g.cells.toList 0 cur w hH (by simpa using hfit) h1;simp only[Nat.add_zero] at hst;unfold Instr.storeAt Instr.sureAddr;simp only[Sem.run_bind,Sem.run_pure,Result.andThen_ok,storeVar,sizeOf,typeInfo,run_program,hi];simp[hsz,hst,splice]
def WH{T:TypeId}{f b off o n:Nat}{t:TypeId}(hf:U7 P T f=some (o,n,t))(hn:1<=n):
  (Instr.fieldAt T (.pointer (some ⟨b,off,none⟩)) f).run P w=.ok (.pointer (some ⟨b,off+o,none⟩)) w:=by
 unfold U7 at hf;cases hu:P.underlying T with
 |none=>simp[hu] at hf
 |some d=>
  rw[hu] at hf;cases d with
  |struct fs=>
   simp only at hf;cases hfd:fs[f]? with
   |none=>simp[hfd] at hf
   |some fd=>
    simp only[hfd,iq,jM] at hf;obtain⟨rfl,rfl,rfl⟩:=hf;cases hi:P.info? fd.type with
    |none=>simp[mQ,hi] at hn
    |some i=>
     have hne:i.size≠0:=by rw[JK hi] at hn;omega
     unfold Instr.fieldAt;simp[run_underlying hu,hfd,Instr.sureAddr,fieldPlace,sizeOf,typeInfo,hi,hne,MP]
  |_=>simp at hf
def RS{t e:TypeId}(h:elT P t=some e):P.underlying t=some (.slice e):=by
 unfold elT at h;cases hu:P.underlying t with
 |none=>simp[hu] at h
 |some d=>rw[hu] at h;cases d<;>simp at h;rw[h]
def run_indexAt{t e:TypeId}{k:IntKind}{i:Int}{b o n cap:Nat}(he:elT P t=some e){inf:TypeInfo}(hi:P.info? e=some inf)(h0:0<=i)(hn:i<n):
  (Instr.indexAt t (.slice (some ⟨b,o,none⟩) n cap) (.int k i)).run P w=.ok (.pointer (some ⟨b,o+i.toNat * inf.size,none⟩)) w:=by
 have hu:=RS he;have hc:0<=i∧i<(n:Int):=⟨h0,hn⟩
 unfold Instr.indexAt;simp[asIntOf,run_underlying hu,hc,sizeOf,typeInfo,hi,MP]
structure Src(P:Program)(size:Nat)(w:World)(y:Value)(m:Nat)(news:List Value):Prop where
 len:(Builtin.lenOf y).run P w=.ok m w
 get:(Builtin.firstCells size m y).run P w=.ok news.toArray w
 lend:(Builtin.lenOf y).run P w.drew=.ok m w.drew
 aAg:(Builtin.firstCells size m y).run P w.drew=.ok news.toArray w.drew
 n:news.length=m * size
 one:∀u∈news,u.oneCell'=true
def Src.slice{size:Nat}{a:Option Addr}{m c:Nat}{news:List Value}(hl:news.length=m * size)(h1:∀u∈news,u.oneCell'=true)
  (h:m≠0->∃b o,a=some ⟨b,o,none⟩∧∀j v,news[j]? =some v->w.cell? ⟨b,o+j,none⟩=some v):Src P size w (.slice a m c) m news:=by
 have key:∀w':World,(∀x,w'.cell? x=w.cell? x)->(Builtin.firstCells size m (.slice a m c)).run P w'=.ok news.toArray w':=by
  intro w' hw
  by_cases hm:m=0
  ·subst hm;have:news=[]:=List.eq_nil_of_length_eq_zero (by simpa using hl);subst this;cases a with
   |none=>simp[Builtin.firstCells]
   |some a=>simp[Builtin.firstCells,loadCells,loadCellsFrom]
  ·obtain⟨b,o,rfl,hc⟩:=h hm;exact run_firstCells_some (P:=P) w' size m ⟨b,o,none⟩ m c news hl (λj v hv=>by rw[MP,hw];exact hc j v hv)
 exact⟨by simp[Builtin.lenOf],key w (λ_=>rfl),by simp[Builtin.lenOf],key w.drew (λx=>rfl),hl,h1⟩
def Src.string{s:List UInt8}:Src P 1 w (.string ⟨⟨s⟩⟩) s.length (s.map λb=>Value.int .u8 b.toNat):=by
 have hsz:(⟨⟨s⟩⟩:ByteArray).size=s.length:=rfl;have hex:((⟨⟨s⟩⟩:ByteArray).extract 0 s.length)=⟨⟨s⟩⟩:=by rw[<-hsz];apply ByteArray.ext;simp[ByteArray.data_extract]
 have hm:(Array.map (λb:UInt8=>Value.int .u8 (b.toNat:Int)) ⟨s⟩)=(s.map λb=>Value.int .u8 (b.toNat:Int)).toArray:=by apply Array.ext';simp
 refine⟨by simp[Builtin.lenOf,hsz],by simp[Builtin.firstCells,hex,hm],by simp[Builtin.lenOf,hsz],by simp[Builtin.firstCells,hex,hm],by simp, ?_⟩;intro u hu;simp only[List.mem_map] at hu;obtain⟨b,_,rfl⟩:=hu;rfl
def QL{t ty y e:TypeId}{inf:TypeInfo}{z gy:Value}{m:Nat}{news:List Value}(he:P.underlying t=some (.slice e))(hty:(∃e',P.underlying y=some (.slice e'))∨P.underlying y=some .string)
  (hi:P.info? e=some inf) (hz:inf.zero=some z) (hs:Src P inf.size w gy m news) (hm:m≠0) (h63:m<=140737488355328) (hb:m * inf.bytes<=140737488355328):
  ∃cap,m<=cap∧(Builtin.append_ #[t,y] ty #[.slice none 0 0,gy]).run P w=.ok (.slice (some ⟨w.heap.size,0,none⟩) m cap) (w.drew.alloc (.cells (news.toArray++Builtin.zeroCells z.cells (cap - m)) e)):=by
 have h63':¬(9223372036854775807<(m:Int)):=au;have h48':¬(281474976710656<Builtin.nextslicecap m 0 * inf.bytes):=by rw[nextslicecap_zero au];omega
 refine⟨grownCap w m 0 e,grownCap_ge w m 0 e, ?_⟩;rcases hty with⟨e',hd⟩|hd<;>simp[Builtin.append_,run_underlying he,run_underlying hd,sizeOf,typeInfo,zeroValue,hi,hz,hs.len,hm,h63',h48',Question.forced,run_firstCells_none,hs.aAg,newRow,grownCap]
def QM{t ty y e:TypeId}{inf:TypeInfo}{gy:Value}{news:List Value}(he:P.underlying t=some (.slice e))(hty:(∃e',P.underlying y=some (.slice e'))∨P.underlying y=some .string)
  (hi:P.info? e=some inf) (hs:Src P inf.size w gy 0 news):
  (Builtin.append_ #[t,y] ty #[.slice none 0 0,gy]).run P w=.ok (.slice none 0 0) w:=by
 rcases hty with⟨e',hd⟩|hd<;>simp[Builtin.append_,run_underlying he,run_underlying hd,sizeOf,typeInfo,hi,hs.len,hs.get]
def run_append_fits{t ty y e T:TypeId}{inf:TypeInfo}{gy:Value}{b n m cap:Nat}{cur:Array Value}{news:List Value}(he:P.underlying t=some (.slice e))(hty:(∃e',P.underlying y=some (.slice e'))∨P.underlying y=some .string)
  (hi:P.info? e=some inf) (hs:Src P inf.size w gy m news) (hH:w.heap[b]? =some (.cells cur T (0,0))) (hroom:n+m<=cap) (hc:cur.size=cap * inf.size):
  (Builtin.append_ #[t,y] ty #[.slice (some ⟨b,0,none⟩) n cap,gy]).run P w=.ok (.slice (some ⟨b,0,none⟩) (n+m) cap) (w.setRow b (splice cur.toList (n * inf.size) news).toArray):=by
 have hfit:n * inf.size+0+news.length<=cur.size:=by rw[hs.n,hc,Nat.add_zero,<-Nat.add_mul];exact Nat.mul_le_mul_right _ hroom
 have hst:=run_storeCells_at P b (n * inf.size) T news 0 cur w hH hfit hs.one;simp only[Nat.add_zero] at hst;rcases hty with⟨e',hd⟩|hd<;>simp[Builtin.append_,run_underlying he,run_underlying hd,sizeOf,typeInfo,hi,hs.len,hroom,hs.get,MP,hst,splice]
def ada{t ty y e:TypeId}{inf:TypeInfo}{z gy:Value}{b n m cap:Nat}{olds news:List Value}(he:P.underlying t=some (.slice e))(hty:(∃e',P.underlying y=some (.slice e'))∨P.underlying y=some .string)
  (hi:P.info? e=some inf) (hz:inf.zero=some z) (hs:Src P inf.size w gy m news) (hl:olds.length=n * inf.size) (ho:∀j v,olds[j]? =some v->w.cell? ⟨b,0+j,none⟩=some v) (hroom:cap<n+m) (h63:n+m<=140737488355328) (hb:(n+m) * inf.bytes<=140737488355328):
  ∃cap',n+m<=cap'∧(Builtin.append_ #[t,y] ty #[.slice (some ⟨b,0,none⟩) n cap,gy]).run P w=.ok (.slice (some ⟨w.heap.size,0,none⟩) (n+m) cap') (w.drew.alloc (.cells ((olds++news).toArray++Builtin.zeroCells z.cells (cap' - (n+m))) e)):=by
 have hn:¬(n+m<=cap):=au;have h63':¬(9223372036854775807<((n:Int)+(m:Int))):=au;have h48':¬(281474976710656<Builtin.nextslicecap (n+m) cap * inf.bytes):=by have:=growslice_fits hroom hb;omega
 have hfo:=run_firstCells_some (P:=P) w.drew inf.size n ⟨b,0,none⟩ n cap olds hl (λj v hv=>by rw[MP];exact ho j v hv);refine⟨grownCap w (n+m) cap e,grownCap_ge w (n+m) cap e, ?_⟩;rcases hty with⟨e',hd⟩|hd<;>simp[Builtin.append_,run_underlying he,run_underlying hd,sizeOf,typeInfo,zeroValue,hi,hz,hs.len,hn,h63',h48',Question.forced,hfo,hs.aAg,newRow,grownCap]<;>
  (congr 2;apply Array.ext';simp[BO])
def Y0{t ty y e T:TypeId}{inf:TypeInfo}{gy:Value}{b o n m cap:Nat}{cur:Array Value}{news:List Value}(he:P.underlying t=some (.slice e))(hty:(∃e',P.underlying y=some (.slice e'))∨P.underlying y=some .string)
  (hi:P.info? e=some inf) (hs:Src P inf.size w gy m news) (hH:w.heap[b]? =some (.cells cur T (0,0))) (hroom:n+m<=cap) (hc:o+cap * inf.size<=cur.size):
  (Builtin.append_ #[t,y] ty #[.slice (some ⟨b,o,none⟩) n cap,gy]).run P w=.ok (.slice (some ⟨b,o,none⟩) (n+m) cap) (w.setRow b (splice cur.toList (o+n * inf.size) news).toArray):=by
 have hfit:(o+n * inf.size)+0+news.length<=cur.size:=by have:=Nat.mul_le_mul_right inf.size hroom;rw[Nat.add_mul] at this;rw[hs.n];omega
 have hst:=run_storeCells_at P b (o+n * inf.size) T news 0 cur w hH hfit hs.one;simp only[Nat.add_zero] at hst;rcases hty with⟨e',hd⟩|hd<;>simp[Builtin.append_,run_underlying he,run_underlying hd,sizeOf,typeInfo,hi,hs.len,hroom,hs.get,MP,hst,splice]
def Y1{t ty y e:TypeId}{inf:TypeInfo}{z gy:Value}{b o n m cap:Nat}{olds news:List Value}(he:P.underlying t=some (.slice e))(hty:(∃e',P.underlying y=some (.slice e'))∨P.underlying y=some .string)
  (hi:P.info? e=some inf) (hz:inf.zero=some z) (hs:Src P inf.size w gy m news) (hl:olds.length=n * inf.size) (ho:∀j v,olds[j]? =some v->w.cell? ⟨b,o+j,none⟩=some v) (hroom:cap<n+m) (h63:n+m<=140737488355328) (hb:(n+m) * inf.bytes<=140737488355328):
  ∃cap',n+m<=cap'∧(Builtin.append_ #[t,y] ty #[.slice (some ⟨b,o,none⟩) n cap,gy]).run P w=.ok (.slice (some ⟨w.heap.size,0,none⟩) (n+m) cap') (w.drew.alloc (.cells ((olds++news).toArray++Builtin.zeroCells z.cells (cap' - (n+m))) e)):=by
 have hn:¬(n+m<=cap):=au;have h63':¬(9223372036854775807<((n:Int)+(m:Int))):=au;have h48':¬(281474976710656<Builtin.nextslicecap (n+m) cap * inf.bytes):=by have:=growslice_fits hroom hb;omega
 have hfo:=run_firstCells_some (P:=P) w.drew inf.size n ⟨b,o,none⟩ n cap olds hl (λj v hv=>by rw[MP];exact ho j v hv);refine⟨grownCap w (n+m) cap e,grownCap_ge w (n+m) cap e, ?_⟩;rcases hty with⟨e',hd⟩|hd<;>simp[Builtin.append_,run_underlying he,run_underlying hd,sizeOf,typeInfo,zeroValue,hi,hz,hs.len,hn,h63',h48',Question.forced,hfo,hs.aAg,newRow,grownCap]<;>
  (congr 2;apply Array.ext';simp[BO])
end
end Go.Vm
namespace Go.Vm
open Go
structure Fr(M0:List Nat)(w0 w:World)(G:GS):Prop where
 keep:Keep M0 w0 w
 fr:∀b,excl G.F G.E b->b∈M0∨w0.heap.size<=b
structure Nx(base:Nat)(U:Nat->Prop)(M0:List Nat)(w0 w:World)(m:Mem)(G:GS)(w':World)(m':Mem)(G':GS):Prop where
 ok:Gf base U w' m' G'
 E:G'.E=[]
 out:G'.out=[]
 mem:Ho G.μ m G'.μ m'
 view:(Gh U w G).le (Gh U w' G')
 fr:Fr M0 w0 w' G'
structure At(base:Nat)(U:Nat->Prop)(M0:List Nat)(w0 w:World)(m:Mem)(G:GS):Prop where
 ok:Gf base U w m G
 E:G.E=[]
 out:G.out=[]
 fr:Fr M0 w0 w G
def JY{P:Program}{o:Oper}{a:Act}{w w':World}{K:Act->World->Prop}{Q:Exit->Act->World->Prop}{g:Value}(h:(execOp a.eval o).run P w=.ok (.value g) w')(hn:K (a.put o.dst g) w'):o.wp P a w K Q:=by unfold Oper.wp;rw[h];exact hn
def wp_skip{P:Program}{o:Oper}{a:Act}{w w':World}{K:Act->World->Prop}{Q:Exit->Act->World->Prop}(h:(execOp a.eval o).run P w=.ok .skip w')(hn:K (a.put o.dst undef) w'):o.wp P a w K Q:=by unfold Oper.wp;rw[h];exact hn
section
variable {base:Nat} {U:Nat->Prop} {M0:List Nat} {w0 w w':World} {m m':Mem} {G G':GS} {P:Program}
def At.nx(h:At base U M0 w0 w m G):Nx base U M0 w0 w m G w m G:=⟨h.ok,h.E,h.out,rC _ _,View.le_refl _,h.fr⟩
def Nx.at_(h:Nx base U M0 w0 w m G w' m' G'):At base U M0 w0 w' m' G':=⟨h.ok,h.E,h.out,h.fr⟩
def Nx.trans{w2:World}{m2:Mem}{G2:GS}(h:Nx base U M0 w0 w m G w' m' G')(k:Nx base U M0 w0 w' m' G' w2 m2 G2):Nx base U M0 w0 w m G w2 m2 G2:=
 ⟨k.ok,k.E,k.out,vG h.mem k.mem,h.view.trans' k.view,k.fr⟩
def Nx.aK(h:Nx base U M0 w0 w m G w' m' G'){v:V}{g:Value}(q:aK G.μ m (Gh U w G) v g):aK G'.μ m' (Gh U w' G') v g:=zu h.mem h.view v g q
def Nx.bW(h:Nx base U M0 w0 w m G w' m' G'){v:List V}{g:List Value}(q:bW G.μ m (Gh U w G) v g):bW G'.μ m' (Gh U w' G') v g:=uo h.mem h.view v g q
def Fr.less(h:Fr M0 w0 w G)(hx:∀b,excl G'.F G'.E b->excl G.F G.E b):Fr M0 w0 w G':=⟨h.keep,λb hb=>h.fr b (hx b hb)⟩
def At.still(h:At base U M0 w0 w m G)(hg:Gf base U w m' G')(hl:WA m G m' G')(ho:G'.out=[]):
  Nx base U M0 w0 w m G w m' {G' with E:=[]}:=by
 obtain⟨k1,k2⟩:=hg.less [] (by simp) (by simp);have:=hl.trans k2;exact⟨k1,rfl,ho,this.mem,this.view,h.fr.less this.ex⟩
def MQ{μ:Nat->Value}{h:View}:∀{a b:List V} {g k:List Value},bW μ m h a g->bW μ m h b k->bW μ m h (a++b) (g++k)
 |[],b,g,k,ha,hb=>by simp only[bW] at ha;subst ha;simpa using hb
 |v::a,b,g,k,ha,hb=>by obtain⟨g0,g',rfl,h1,h2⟩:=nN ha;simp only[TV,bW];exact⟨g0,g'++k,rfl,h1,MQ h2 hb⟩
def Y2{μ:Nat->Value}{h:View}:∀{a:List V} {g:List Value} (n:Nat),bW μ m h a g->bW μ m h (a.drop n) (g.drop n)
 |a,g,0,ha=>by simpa using ha
 |[],g,n+1,ha=>by simp only[bW] at ha;subst ha;simp[bW]
 |v::a,g,n+1,ha=>by obtain⟨g0,g',rfl,h1,h2⟩:=nN ha;simpa using Y2 n h2
def Y3{μ:Nat->Value}{h:View}:∀{a:List V} {g:List Value} (n:Nat),bW μ m h a g->bW μ m h (a.take n) (g.take n)
 |a,g,0,ha=>by simp[bW]
 |[],g,n+1,ha=>by simp only[bW] at ha;subst ha;simp[bW]
 |v::a,g,n+1,ha=>by obtain⟨g0,g',rfl,h1,h2⟩:=nN ha;simp only[List.take_succ_cons,bW];exact⟨g0,g'.take n,rfl,h1,Y3 n h2⟩
def aeL{μ:Nat->Value}{h:View}{a:List V}{g:List Value}(o n:Nat)(q:bW μ m h a g):bW μ m h (part a o n) ((g.drop o).take n):=Y3 n (Y2 o q)
def Vb{μ:Nat->Value}{h:View}{a b:List V}{g k:List Value}(o:Nat)(q:bW μ m h a g)(q':bW μ m h b k):bW μ m h (splice a o b) (splice g o k):=by have hl:k.length=b.length:=kV q';unfold splice;rw[hl];exact MQ (MQ (Y3 o q) q') (Y2 _ q)
def XO{μ:Nat->Value}{h:View}:∀{a:List V} {g:List Value} {i:Nat} {v:V},bW μ m h a g->a[i]? =some v->∃x,g[i]? =some x∧aK μ m h v x
 |[],g,i,v,ha,hi=>by simp at hi
 |v0::a,g,i,v,ha,hi=>by
  obtain⟨g0,g',rfl,h1,h2⟩:=nN ha;cases i with
  |zero=>simp at hi;subst hi;exact⟨g0,rfl,h1⟩
  |succ i=>simpa using XO h2 (by simpa using hi)
def ahS{t:TypeId}{vs:List V}{v:V}(h:Ko P t vs=some v){μ:Nat->Value}{hh:View}{cs:List Value}(hq:bW μ m hh vs cs):∃g,valOf P t cs g:=by
 unfold Ko at h;unfold valOf;cases ha:JI P t with
 |true=>exact⟨_,by simp;rfl⟩
 |false=>
  simp only[ha,bG] at h;split at h
  ·obtain⟨g',gs',e,q1,q2⟩:=nN hq;simp only[bW] at q2;subst q2;exact⟨g',by simpa using e⟩
  ·cases h
def TY{h:View}{x:D}{g:Value}(q:ro h x g):g.oneCell'=true:=by
 cases x with
 |sl o s rows=>simp only[ro] at q;obtain⟨a,cap,rfl,_⟩:=q;rfl
 |_=>simp only[ro] at q;subst q;rfl
def aph{row:Row}{j:Nat}{x:D}(h:nth row j=x)(hx:x≠.RI):row[j]? =some x:=by
 unfold nth at h;cases hr:row[j]? with
 |none=>rw[hr] at h;exact absurd h.symm hx
 |some y=>rw[hr] at h;exact congrArg some h
def aqn{s:Nat}{x:D}{rows:List Row}(h:awx s x=some rows):∃o,x=.sl o s rows∧(o=false∨rows=[]):=by
 cases x<;>simp[awx] at h;rename_i o s' rows'
 by_cases e:s'=s
 ·subst e;simp at h;cases o with
  |false=>simp at h;subst h;exact⟨false,rfl,.inl rfl⟩
  |true=>
   cases rows' with
   |nil=>simp at h;subst h;exact⟨true,rfl,.inr rfl⟩
   |cons _ _=>simp at h
 ·rw[wO e] at h;simp at h
def XP{strict:Bool}{row:Row}{μ:Nat->Value}{h:View}(cell:Nat->Option Value)(Rel:D->Value->Prop)(hrow:∀k x,row[k]? =some x->∃g,cell k=some g∧Rel x g)
  (hint:∀k n g,Rel (.int k n) g->g=.int k n) (ayV:∀b g,Rel (.bool b) g->g=.bool b) (hstr:∀s g,Rel (.str s) g->g=.string ⟨⟨s⟩⟩)
  (hsl:∀o s rs g,Rel (.sl o s rs) g->(strict=true->o=false∨rs=[])->ro h (.sl false s rs) g):
  ∀(cts:List CT) (j:Nat) (c:List V->Acc V) (m0:Mem) (l:Log) (r:V×Mem×Log),(MK strict cts row j c).run m0 l=some r->
   ∃vs cs,(c vs).run m0 l=some r∧cs.length=cts.length∧bW μ m h vs cs∧∀i g,cs[i]? =some g->cell (j+i)=some g
 |[],j,c,m0,l,r,hr=>⟨[],[],hr,rfl,by simp[bW],by simp⟩
 |ct::cts,j,c,m0,l,r,hr=>by
  have go:∀(x:D) (y:V),nth row j=x->x≠.RI->(∀g,Rel x g->aK μ m h y g)->(MK strict cts row (j+1) λvs=>c (y::vs)).run m0 l=some r->
    ∃vs cs,(c vs).run m0 l=some r∧cs.length=(ct::cts).length∧bW μ m h vs cs∧∀i g,cs[i]? =some g->cell (j+i)=some g:=by
   intro x y hx hxn hs hr;obtain⟨g,hg,hrel⟩:=hrow j x (aph hx hxn);obtain⟨vs,cs,h1,h2,h3,h4⟩:=XP cell Rel hrow hint ayV hstr hsl cts (j+1) _ m0 l r hr;refine⟨y::vs,g::cs,h1,by simp[h2],by simp only[bW];exact⟨g,cs,rfl,hs g hrel,h3⟩, ?_⟩;intro i g' hi;cases i with
   |zero=>simp at hi;subst hi;exact hg
   |succ i=>have:=h4 i g' (by simpa using hi);rw[show j+(i+1)=j+1+i from by omega];exact this
  cases ct with
  |int k=>
   simp only[MK,Acc.run,bI] at hr;cases ha:asInt k (nth row j) with
   |none=>simp[ha,Acc.run] at hr
   |some n=>simp only[ha,Acc.run] at hr;exact go _ _ (aeE ha) (by simp) (λg hg=>by rw[hint _ _ g hg];simp[aK,ro]) hr
  |bool=>
   simp only[MK,Acc.run,OT] at hr;cases ha:asBool (nth row j) with
   |none=>simp[ha,Acc.run] at hr
   |some n=>simp only[ha,Acc.run] at hr;exact go _ _ (acj ha) (by simp) (λg hg=>by rw[ayV _ g hg];simp[aK,ro]) hr
  |str=>
   simp only[MK,Acc.run,cStr] at hr;cases ha:ahI (nth row j) with
   |none=>simp[ha,Acc.run] at hr
   |some n=>simp only[ha,Acc.run] at hr;exact go _ _ (aeF ha) (by simp) (λg hg=>by rw[hstr _ g hg];simp[aK,ro]) hr
  |other=>simp[MK,Acc.run] at hr
  |sl s=>
   simp only[MK,Acc.run,cRo,PE] at hr;cases strict with
   |true=>
    simp only[aS] at hr;cases ha:awx s (nth row j) with
    |none=>simp[ha,Acc.run] at hr
    |some n=>simp only[ha,Acc.run] at hr;obtain⟨o,hx,ho⟩:=aqn ha;exact go _ _ hx (by simp) (λg hg=>by simp only[aK];exact hsl _ _ _ g hg (λ_=>ho)) hr
   |false=>
    simp only[bG] at hr;cases ha:arN s (nth row j) with
    |none=>simp[ha,Acc.run] at hr
    |some n=>simp only[ha,Acc.run] at hr;obtain⟨o,hx⟩:=ahP ha;exact go _ _ hx (by simp) (λg hg=>by simp only[aK];exact hsl _ _ _ g hg (λh=>by cases h)) hr
def abg{h:View}{b:Nat}:∀{r:Row} {o k:Nat} {x:D},xR h r b o->r[k]? =some x->∃g,h b (o+k)=some g∧ro h x g
 |[],_,_,_,_,hk=>by simp at hk
 |y::r,o,0,x,q,hk=>by simp only[xR] at q;simp at hk;subst hk;simpa using q.1
 |y::r,o,k+1,x,q,hk=>by
  simp only[xR] at q;have:=abg q.2 (by simpa using hk)
  rwa [show o+(k+1)=o+1+k from by omega]
def WI{h:View}:∀{r:Row} {cs:List Value} {k:Nat} {x:D},iU h r cs->r[k]? =some x->∃g,cs[k]? =some g∧ro h x g
 |[],_,_,_,_,hk=>by simp at hk
 |y::r,cs,0,x,⟨v,cs',e,h1,h2⟩,hk=>by simp at hk;subst hk;subst e;exact⟨v,rfl,h1⟩
 |y::r,cs,k+1,x,⟨v,cs',e,h1,h2⟩,hk=>by subst e;simpa using WI h2 (by simpa using hk)
def ahT{H:Heap}{h:View}:∀{r:Row} {cs:List Value} {N:List Nat} {k:Nat} {x:D},iO H h r cs N->r[k]? =some x->∃g N1,cs[k]? =some g∧ow H h x g N1
 |[],_,_,_,_,_,hk=>by simp at hk
 |y::r,cs,N,0,x,q,hk=>by obtain⟨v,cs',N1,N2,rfl,rfl,h1,h2⟩:=LG q;simp at hk;subst hk;exact⟨v,N1,rfl,h1⟩
 |y::r,cs,N,k+1,x,q,hk=>by obtain⟨v,cs',N1,N2,rfl,rfl,h1,h2⟩:=LG q;simpa using ahT h2 (by simpa using hk)
def LK{h:View}{s b:Nat}:∀{rs:List Row} {o k:Nat} {r:Row},nV h s rs b o->rs[k]? =some r->r.length=s∧xR h r b (o+k * s)
 |[],_,_,_,_,hk=>by simp at hk
 |y::rs,o,0,x,q,hk=>by simp only[nV] at q;simp at hk;subst hk;simpa using⟨q.1,q.2.1⟩
 |y::rs,o,k+1,x,q,hk=>by
  simp only[nV] at q;have:=LK q.2.2 (by simpa using hk)
  rwa [show o+(k+1) * s=o+s+k * s from by rw[Nat.add_mul];omega]
def Vd{h:View}{s:Nat}:∀{rs:List Row} {cs:List Value} {k:Nat} {r:Row},gu h s rs cs->rs[k]? =some r->r.length=s∧iU h r (cs.drop (k * s))
 |[],_,_,_,_,hk=>by simp at hk
 |y::rs,cs,0,x,q,hk=>by simp at hk;subst hk;simpa using⟨q.1,q.2.1⟩
 |y::rs,cs,k+1,x,q,hk=>by
  have:=Vd q.2.2 (by simpa using hk);rw[List.drop_drop] at this
  rwa [show(k+1) * s=s+k * s from by rw[Nat.add_mul];omega]
def aeM{H:Heap}{h:View}{s:Nat}:∀{rs:List Row} {cs:List Value} {N:List Nat} {k:Nat} {r:Row},fO H h s rs cs N->rs[k]? =some r->r.length=s∧∃N1,iO H h r (cs.drop (k * s)) N1
 |[],_,_,_,_,_,hk=>by simp at hk
 |y::rs,cs,N,0,x,q,hk=>by simp only[fO] at q;obtain⟨h1,N1,N2,rfl,h2,h3⟩:=q;simp at hk;subst hk;exact⟨h1,N1,by simpa using h2⟩
 |y::rs,cs,N,k+1,x,q,hk=>by
  simp only[fO] at q;obtain⟨h1,N1,N2,rfl,h2,h3⟩:=q;have:=aeM h3 (by simpa using hk);rw[List.drop_drop] at this
  rwa [show(k+1) * s=s+k * s from by rw[Nat.add_mul];omega]
def apj{h:View}{fz fl:Bool}{ver s:Nat}{rows:List Row}{r i:Nat}{row:Row}{N:List Nat}(hq:nX G.μ m (dG w) h r (.arr fz fl ver s rows) N)(hl:h.le (full w))(hi:rows[i]? =some row):
  ∃b o cap,G.μ r=.slice (some ⟨b,o,none⟩) rows.length cap∧(fz=false->o=0)∧row.length=s∧
   ∃Rel:D->Value->Prop,(∀k x,row[k]? =some x->∃g,full w b (o+i * s+k)=some g∧Rel x g)∧
   (∀k n g,Rel (.int k n) g->g=.int k n)∧(∀b g,Rel (.bool b) g->g=.bool b)∧(∀s g,Rel (.str s) g->g=.string ⟨⟨s⟩⟩)∧
   (∀o s rs g,Rel (.sl o s rs) g->(o=false∨rs=[])->ro h (.sl false s rs) g):=by
 have hne:rows≠[]:=by intro e;subst e;simp at hi
 cases fz with
 |true=>
  obtain⟨h1,_⟩:=hq;simp only[ro] at h1;obtain⟨a,cap,h2,h3,h4⟩:=h1;obtain⟨b,o,rfl,h5⟩:=h4 hne;obtain⟨h6,h7⟩:=LK h5 hi;refine⟨b,o,cap,h2,by simp,h6,ro h,λk x hk=> ?_, ?_, ?_, ?_, ?_⟩
  ·obtain⟨g,hg1,hg2⟩:=abg h7 hk;exact⟨g,hl _ _ _ hg1,hg2⟩
  ·intro k n g hg;simpa[ro] using hg
  ·intro b g hg;simpa[ro] using hg
  ·intro s g hg;simpa[ro] using hg
  ·intro o s rs g hg _;exact WC hg
 |false=>
  simp only[nX] at hq;rcases hq with⟨rfl,_,_⟩|⟨b,cap,cs,t,N',h1,h2,h3,h4,h5,_⟩
  ·exact absurd rfl hne
  ·have hfull:∀k g,(cs.toList.drop (i * s))[k]? =some g->full w b (0+i * s+k)=some g:=by intro k g hg;rw[List.getElem?_drop] at hg;rw[full_cell h3,Nat.zero_add];exact hg
   cases fl with
   |true=>
    obtain⟨h6,h7⟩:=Vd h5.1 hi;refine⟨b,0,cap,h1,by simp,h6,ro h,λk x hk=> ?_, ?_, ?_, ?_, ?_⟩
    ·obtain⟨g,hg1,hg2⟩:=WI h7 hk;exact⟨g,hfull k g hg1,hg2⟩
    ·intro k n g hg;simpa[ro] using hg
    ·intro b g hg;simpa[ro] using hg
    ·intro s g hg;simpa[ro] using hg
    ·intro o s rs g hg _;exact WC hg
   |false=>
    obtain⟨h6,N1,h7⟩:=aeM h5 hi;refine⟨b,0,cap,h1,by simp,h6,λx g=>∃N,ow (dG w) h x g N,λk x hk=> ?_, ?_, ?_, ?_, ?_⟩
    ·obtain⟨g,N2,hg1,hg2⟩:=ahT h7 hk;exact⟨g,hfull k g hg1,N2,hg2⟩
    ·rintro k n g ⟨N,hg⟩;simp only[ow] at hg;exact hg.1
    ·rintro b g ⟨N,hg⟩;simp only[ow] at hg;exact hg.1
    ·rintro s g ⟨N,hg⟩;simp only[ow] at hg;exact hg.1
    ·rintro o s rs g ⟨N,hg⟩ ho;cases o with
     |false=>simp only[ow] at hg;exact hg.2
     |true=>
      rcases ho with ho|rfl
      ·cases ho
      ·simp only[ow] at hg;rcases hg with⟨_,rfl,_⟩|⟨b,cap,cs,t,N',e1,e2,_⟩
       ·simp[ro]
       ·simp only[ro];exact⟨_,cap,e1,by simp,λe=>absurd rfl e⟩
def apk{h:View}{s:Nat}{rows:List Row}{g:Value}{i:Nat}{row:Row}{N:List Nat}(hq:ag5 (dG w) h s rows g N)(hi:rows[i]? =some row):
  ∃b o cap,g=.slice (some ⟨b,o,none⟩) rows.length cap∧row.length=s∧∀k x,row[k]? =some x->∃v,full w b (o+i * s+k)=some v∧ro h x v:=by
 rcases hq with⟨rfl,_,_⟩|⟨b,o,cap,cs,t,h1,h2,h3,h4,h5,_⟩
 ·simp at hi
 ·obtain⟨h6,h7⟩:=Vd h5 hi;refine⟨b,o,cap,h1,h6,λk x hk=> ?_⟩;obtain⟨v,hv1,hv2⟩:=WI h7 hk;refine⟨v, ?_,hv2⟩;rw[full_cell (w:=w) h3];rw[List.getElem?_drop,List.getElem?_drop,<-Nat.add_assoc] at hv1;exact hv1
def akC{t:TypeId}{b:Nat}{x:Value}{v:V}(hok:Fb P t=true)(hc:(Nat.beq (mQ P t) 1 && !(JI P t))=true)(hx:full w b 0=some x)(hs:aK G.μ m (Gh U w G) v x):
  ∃g,(Instr.loadAt t (.pointer (some ⟨b,0,none⟩))).run P w=.ok g w∧aK G.μ m (Gh U w G) v g:=by
 simp only[FN,Bool.not_eq_true'] at hc;have hsz:=yD hc.1;have hv:Ko P t [v]=some v:=by simp[Ko,hc.2]
 have hp:bW G.μ m (Gh U w G) [v] [x]:=by simp only[bW];exact⟨x,[],rfl,hs,rfl⟩
 obtain⟨g,hg⟩:=ahS hv hp;refine⟨g,LJ hok (by simp;omega) ?_ hg,LH hv hp hg⟩;intro j y hj;cases j with
 |zero=>simp at hj;subst hj;exact hx
 |succ j=>simp at hj
def ar8(hA:At base U M0 w0 w m G){t:TypeId}{a:V}{ga:Value}(ha:aK G.μ m (Gh U w G) a ga){v:V}{l l':Log}(h:(arR P t a).run m l=some (v,m',l')):
  ∃g,(Instr.loadAt t ga).run P w=.ok g w∧m'=m∧aK G.μ m (Gh U w G) v g:=by
 simp only[arR] at h;replace h:=aj h;obtain⟨_,m1,l1,h1,h⟩:=h;obtain⟨hok,rfl,rfl⟩:=dN h1;simp only[FN] at hok;obtain⟨hok,hsz⟩:=hok;have hsz:=yD hsz;cases a with
 |ptr r off=>
  simp only at h;replace h:=aj h;obtain⟨c,m2,l2,h2,h⟩:=h;rw[wP] at h2;cases h2;cases hc:get r m1 with
  |none=>rw[hc] at h;exact(ak h).elim
  |some c=>
   rw[hc] at h;cases c with
   |arr _ _ _ _ _=>exact(ak h).elim
   |dead=>exact(ak h).elim
   |Iy _ _ _=>exact(ak h).elim
   |oN T x=>simp only at h;replace h:=aj h;obtain⟨_,m2,l2,h2,h⟩:=h;obtain⟨hfit,rfl,rfl⟩:=dN h2;simp only[run_pure,iq,jM] at h;obtain⟨rfl,rfl,rfl⟩:=h;simp only[FN] at hfit;have h0:=yD hfit.1;subst h0;simp only[aK,hc] at ha;obtain⟨_,b,hμ,rfl⟩:=ha;obtain⟨_,b',y,e1,e2,e3⟩:=hA.ok.cell r _ hc (by rw[hA.out];simp);rw[hμ] at e1;cases e1;obtain⟨g,hg1,hg2⟩:=akC (P:=P) hok (by rw[FN];exact hfit.2) (uN _ _ _ _ _ _ e2) e3;exact⟨g,hg1,rfl,hg2⟩
   |box T cs=>
    simp only at h;replace h:=aj h;obtain⟨_,m2,l2,h2,h⟩:=h;obtain⟨hfit,rfl,rfl⟩:=dN h2;obtain⟨hv,rfl,rfl⟩:=iw h;simp only[aK,hc] at ha;obtain⟨_,b,hμ,rfl⟩:=ha;obtain⟨b',arr,e1,e2,e3,e4⟩:=hA.ok.cell r _ hc (by rw[hA.out];simp);rw[hμ] at e1;cases e1;have hp:=aeL off (mQ P t) e3;have hlen:arr.size=cs.length:=by simpa using kV e3
    have hfit:=Nat.le_of_ble_eq_true hfit;obtain⟨g,hg⟩:=ahS hv hp;refine⟨g,LJ hok (by simp;omega) ?_ hg,rfl,LH hv hp hg⟩;intro j x hj;have hj':j<mQ P t:=by have:=(MG.1 hj).1;simp at this;omega
    rw[List.getElem?_take,if_pos hj',List.getElem?_drop] at hj;have:=full_cell (w:=w) e2 (off+j);rw[hj] at this;exact this
 |zo x=>simp only at h;replace h:=aj h;obtain⟨_,m2,l2,h2,h⟩:=h;obtain⟨hfit,rfl,rfl⟩:=dN h2;simp only[run_pure,iq,jM] at h;obtain⟨rfl,rfl,rfl⟩:=h;simp only[aK] at ha;obtain⟨b,y,rfl,e2,e3⟩:=ha;obtain⟨g,hg1,hg2⟩:=akC (P:=P) hok hfit (uN _ _ _ _ _ _ e2) e3;exact⟨g,hg1,rfl,hg2⟩
 |qO row off=>
  simp only at h;simp only[aK] at ha;obtain⟨b,o,rfl,hrow⟩:=ha;obtain⟨vs,cs,h2,h3,h4,h5⟩:=XP (m:=m1) (μ:=G.μ) (h:=Gh U w G) (λk=>Gh U w G b (o+k)) (ro (Gh U w G)) (λk x hk=>abg hrow hk)
   (λk n g hg=>by simpa[ro] using hg) (λb g hg=>by simpa[ro] using hg) (λs g hg=>by simpa[ro] using hg) (λ_ s rs g hg _=>WC hg) _ _ _ _ _ _ h
  obtain⟨hv,rfl,rfl⟩:=iw h2;obtain⟨g,hg⟩:=ahS hv h4;refine⟨g,LJ hok (by rw[h3,hsz]) ?_ hg,rfl,LH hv h4 hg⟩;intro j x hj;have:=h5 j x hj;rw[Nat.add_assoc];exact uN _ _ _ _ _ _ this
 |wW r ver i off=>
  simp only at h;replace h:=aj h;obtain⟨c,m2,l2,h2,h⟩:=h;rw[wP] at h2;cases h2;cases hc:get r m1 with
  |none=>rw[hc] at h;exact(ak h).elim
  |some c=>
   rw[hc] at h;cases c with
   |box _ _=>exact(ak h).elim
   |oN _ _=>exact(ak h).elim
   |dead=>exact(ak h).elim
   |Iy jf s rows=>
    simp only at h;replace h:=aj h;obtain⟨_,m2,l2,h2,h⟩:=h;obtain⟨hb,rfl,rfl⟩:=dN h2;have hb:=yD hb;subst hb;replace h:=aj h;obtain⟨row,m2,l2,h2,h⟩:=h;obtain⟨hrow,rfl,rfl⟩:=iw h2;simp only[aK,hc] at ha;obtain⟨b,o,n,cap,hμ,rfl⟩:=ha.2.2 trivial;have hcell:=hA.ok.cell r _ hc (by rw[hA.out];simp);obtain⟨b',o',cap',e1,e3,q1⟩:=apk hcell hrow;rw[hμ] at e1;simp only[Value.slice.injEq,iq,Addr.mk.injEq] at e1;obtain⟨⟨rfl,rfl,_⟩,_,_⟩:=e1;obtain⟨vs,cs,h2,h3,h4,h5⟩:=XP (m:=_) (μ:=G.μ) (h:=Gh U w G) (λk=>full w b (o+i * s+k)) (ro (Gh U w G)) q1
     (λk n g hg=>by simpa[ro] using hg) (λb g hg=>by simpa[ro] using hg) (λs g hg=>by simpa[ro] using hg) (λ_ s rs g hg _=>WC hg) _ _ _ _ _ _ h
    obtain⟨hv,rfl,rfl⟩:=iw h2;obtain⟨g,hg⟩:=ahS hv h4;refine⟨g,LJ hok (by rw[h3,hsz]) ?_ hg,rfl,LH hv h4 hg⟩;intro j x hj;have:=h5 j x hj;rw[show o+(i * s+off)+j=o+i * s+(off+j) from by omega];exact this
   |arr fz fl jf s rows=>simp only at h;replace h:=aj h;obtain⟨_,m2,l2,h2,h⟩:=h;obtain⟨hb,rfl,rfl⟩:=dN h2;have hb:=yD hb;subst hb;replace h:=aj h;obtain⟨row,m2,l2,h2,h⟩:=h;obtain⟨hrow,rfl,rfl⟩:=iw h2;simp only[aK,hc] at ha;obtain⟨b,n,cap,hμ,rfl⟩:=ha.2.2 trivial;have hcell:=hA.ok.cell r _ hc (by rw[hA.out];simp);obtain⟨b',o,cap',e1,e2,e3,Rel,q1,q2,q3,q4,q5⟩:=apj hcell (uN _ _ _) hrow;rw[hμ] at e1;simp only[Value.slice.injEq,iq,Addr.mk.injEq] at e1;obtain⟨⟨rfl,ho,_⟩,_,_⟩:=e1;subst ho;obtain⟨vs,cs,h2,h3,h4,h5⟩:=XP (m:=_) (μ:=G.μ) (h:=Gh U w G) (λk=>full w b (0+i * s+k)) Rel q1 q2 q3 q4 (λo s rs g hg hs=>q5 o s rs g hg (hs rfl)) _ _ _ _ _ _ h;obtain⟨hv,rfl,rfl⟩:=iw h2;obtain⟨g,hg⟩:=ahS hv h4;refine⟨g,LJ hok (by rw[h3,hsz]) ?_ hg,rfl,LH hv h4 hg⟩;intro j x hj;have:=h5 j x hj;rw[show i * s+off+j=0+i * s+(off+j) from by omega];exact this
 |d _=>exact(ak h).elim
 |nil _=>exact(ak h).elim
 |own _ _=>exact(ak h).elim
 |clo _ _ _=>exact(ak h).elim
 |agg _=>exact(ak h).elim
 |BU _=>exact(ak h).elim
 |undef=>exact(ak h).elim
end
end Go.Vm
namespace Go.Vm
open Go
section
variable {base:Nat} {U:Nat->Prop} {M0:List Nat} {w0 w w':World} {m m':Mem} {G G':GS} {P:Program}
def oP{μ:Nat->Value}{h:View}{v:V}{g:Value}(h1:one v=true)(q:aK μ m h v g):g.oneCell'=true:=by
 cases v with
 |d x=>simp only[aK] at q;exact TY q
 |nil s=>simp only[aK] at q;subst q;rfl
 |own _ _=>simp only[aK] at q;obtain⟨⟨a,n,c,rfl⟩,_⟩:=q;rfl
 |ptr _ _=>simp only[aK] at q;obtain⟨⟨b,o,rfl⟩,_⟩:=q;rfl
 |wW _ _ _ _=>simp only[aK] at q;obtain⟨⟨b,o,rfl⟩,_⟩:=q;rfl
 |qO _ _=>simp only[aK] at q;obtain⟨b,o,rfl,_⟩:=q;rfl
 |zo _=>simp only[aK] at q;obtain⟨b,x,rfl,_⟩:=q;rfl
 |clo _ _ _=>simp only[aK] at q;obtain⟨a,c,rfl,_⟩:=q;rfl
 |agg _=>simp[one] at h1
 |BU _=>simp[one] at h1
 |undef=>simp[one] at h1
def cells_one{g:Value}(h:g.oneCell'=true):g.cells=#[g]:=by cases g<;>first|rfl|simp[Value.oneCell'] at h
def ahU{μ:Nat->Value}{h:View}:∀{vs:List V} {gs:List Value},vs.all one=true->bW μ m h vs gs->∀x∈gs,x.oneCell'=true
 |[],gs,_,q=>by simp only[bW] at q;subst q;simp
 |v::vs,gs,h1,q=>by
  obtain⟨g,gs',rfl,q1,q2⟩:=nN q;simp only[List.all_cons,FN] at h1;intro x hx;simp only[List.mem_cons] at hx;rcases hx with rfl|hx
  ·exact oP h1.1 q1
  ·exact ahU h1.2 q2 x hx
def cells_ok{μ:Nat->Value}{h:View}{v:V}{g:Value}(h1:v.cells.all one=true)(q:aK μ m h v g):bW μ m h v.cells g.cells.toList∧∀x∈g.cells.toList,x.oneCell'=true:=by
 have single:one v=true->v.cells=[v]->bW μ m h v.cells g.cells.toList∧∀x∈g.cells.toList,x.oneCell'=true:=by intro ho hv;have:=oP ho q;rw[cells_one this,hv];exact⟨by simp only[bW];exact⟨g,[],rfl,q,rfl⟩,by simpa using this⟩
 cases v with
 |agg cs=>simp only[aK] at q;obtain⟨a,rfl,q⟩:=q;exact⟨q,ahU h1 q⟩
 |BU _=>simp[V.cells,one] at h1
 |undef=>simp[V.cells,one] at h1
 |_=>exact single rfl rfl
def ahV{μ:Nat->Value}{h:View}(c:CT)(g:Value):aK μ m h (aa7 c g) g:=by unfold aa7;split<;>simp[aK,ro]
def Ve{μ:Nat->Value}{h:View}:∀(cs:List CT) (gs:List Value),bW μ m h (F9 cs gs) gs
 |[],[]=>by simp[F9,bW]
 |_::_,[]=>by simp[F9,bW]
 |[],g::gs=>by simp only[F9,bW];exact⟨g,gs,rfl,by simp[aK],Ve [] gs⟩
 |c::cs,g::gs=>by simp only[F9,bW];exact⟨g,gs,rfl,ahV c g,Ve cs gs⟩
def aD9{μ:Nat->Value}{h:View}(t:TypeId)(g:Value):aK μ m h (cv P t g) g:=by
 unfold cv;split
 ·simp only[aK];exact⟨_,rfl,Ve _ _⟩
 ·split
  ·exact ahV _ _
  ·simp[aK]
def Z9(μ:Nat->Value)(m:Mem)(h:View)(tm:kU)(a:Act):Prop:=∀t v,get t tm=some v->t<a.tmps.size∧aK μ m h v (a.tmps.getD t undef)
def Ut{μ:Nat->Value}{h:View}{tm:kU}{a:Act}(hT:Z9 μ m h tm a)(t:TypeId)(x:Operand):aK μ m h (ev P tm t x) (a.eval x):=by
 cases x with
 |tmp i=>
  simp only[ev,U6];cases hg:get i tm with
  |none=>simp[aK]
  |some v=>exact(hT i v hg).2
 |const v=>exact aD9 t v
 |global g=>simp[ev,aK]
 |func f=>simp only[ev,aK];exact⟨#[],#[],rfl,by simp[bW],by simp[bW]⟩
def XQ{μ:Nat->Value}{h:View}{tm:kU}{a:Act}(hT:Z9 μ m h tm a):∀(xs:List Operand) (ts:List TypeId),bW μ m h (vF P tm xs ts) (xs.map a.eval)
 |[],_=>by simp[vF,bW]
 |x::xs,ts=>by simp only[vF,bW,OQ];exact⟨_,_,rfl,Ut hT _ x,XQ hT xs _⟩
def RU{μ:Nat->Value}{h:View}{t:TypeId}{z:List V}(hz:PD P t=some z):∃i zv,P.info? t=some i∧i.zero=some zv∧bW μ m h z zv.cells.toList:=by
 unfold PD at hz;cases hi:P.info? t with
 |none=>simp[hi] at hz
 |some i=>
  simp only[hi] at hz;cases hzv:i.zero with
  |none=>simp[hzv] at hz
  |some zv=>simp only[hzv,iq] at hz;subst hz;exact⟨i,zv,rfl,hzv,Ve _ _⟩
def Gf.rewrite(hg:Gf base U w m G)(ho:G.out=[])(hfr:Fr M0 w0 w G){r:Nat}{c c':Cell}{μ':Nat->Value}{N:List Nat}(hc:get r m=some c)(hk:Keep (G.F r) w w')(hN:N.Nodup)
  (hNs:∀b,b∈N->(b∈G.F r∨b∈G.E∨w.heap.size<=b)∧b<w'.heap.size) (hμ:∀k,k≠r->μ' k=G.μ k) (hle:JJ G.μ μ' r c c')
  (hcell:∀h':View,(Gh U w G).le h'->Ho G.μ m μ' (put r c' m)->(∀k,k∈G.E->k ∉ N->abb h' (dG w) [k])->nX μ' (put r c' m) (dG w') h' r c' N):
  Nx base U M0 w0 w m G w' (put r c' m) ⟨μ',ZK G.F r N,[],[]⟩:=by
 have hro:r ∉ G.out:=by rw[ho];simp
 obtain⟨k1,k2⟩:=hg.ayU hc hro;have hk':Keep (G.E++G.F r) w w':=⟨hk.os,hk.tape,hk.output,hk.size,λb hb hn=>hk.block b hb (λh=>hn (by simp[h]))⟩
 obtain⟨q1,q2⟩:=Gf.world k1 hk' (E':=N) hN (λb hb=>by
  have:=hNs b hb;refine⟨?_,this.2⟩;rcases this.1 with h|h|h
  ·left;simp[h]
  ·left;simp[h]
  ·exact .inr h)
 have hup:ZK (ZK G.F r []) r N=ZK G.F r N:=by
  funext k
  by_cases e:k=r
  ·subst e;simp
  ·simp[kC _ e]
 have hml:Ho G.μ m μ' (put r c' m):=IG hμ (λc0 h0=>by rw[hc] at h0;cases h0;exact hle);have hset:=Gf.set (U:=U) (w:=w') q1 r c' μ' N [] [] (by simpa using hN) (by simp) hml hμ (λk hkr=>by simp[ho,hkr]) (by simp)
  (λhv _=>hcell _ (k2.view.trans' (q2.trans' hv)) hml (λk hkE hkN b hb cs t fr hH o v hv=>by
   simp only[List.mem_singleton] at hb;subst hb;have hbF:∀j,b ∉ G.F j:=λj hj=>hg.djE j b hj hkE
   have hlt:=hg.lt b (.inl hkE);have hsame:dG w' b=dG w b:=hk.block b hlt.1 (hbF r);refine Mc (w:=w') (N:=[b]) (λx hx=> ?_) b (by simp) cs t fr (hsame.trans hH) o v hv;simp only[List.mem_singleton] at hx;subst hx;refine⟨hlt.2.2, ?_⟩;rintro(h|⟨j,h⟩)
   ·simp at h
   ·rw[hup] at h
    by_cases e:j=r
    ·subst e;rw[Fe] at h;exact hkN h
    ·rw[kC _ e] at h;exact hbF j h))
 simp only[hup] at hset;obtain⟨s1,s2⟩:=hset;refine⟨s1,rfl,rfl,hml,k2.view.trans' (q2.trans' s2.view), ?_⟩;refine⟨hfr.keep.trans hk (λx hx=>hfr.fr x (.inr ⟨r,hx⟩)), ?_⟩;rintro b (hb|⟨k,hb⟩)
 ·simp at hb
 ·by_cases e:k=r
  ·subst e;simp only[Fe] at hb;rcases(hNs b hb).1 with h|h|h
   ·exact hfr.fr b (.inr ⟨_,h⟩)
   ·exact hfr.fr b (.inl h)
   ·exact .inr (Nat.le_trans hfr.keep.size h)
  ·simp only[kC _ e] at hb;exact hfr.fr b (.inr ⟨k,hb⟩)
def At.rewrite(hA:At base U M0 w0 w m G){r:Nat}{c c':Cell}{μ':Nat->Value}{N:List Nat}(hc:get r m=some c)(hk:Keep (G.F r) w w')(hN:N.Nodup)
  (hNs:∀b,b∈N->(b∈G.F r∨w.heap.size<=b)∧b<w'.heap.size) (hμ:∀k,k≠r->μ' k=G.μ k) (hle:JJ G.μ μ' r c c')
  (hcell:∀h':View,(Gh U w G).le h'->Ho G.μ m μ' (put r c' m)->nX μ' (put r c' m) (dG w') h' r c' N):
  Nx base U M0 w0 w m G w' (put r c' m) ⟨μ',ZK G.F r N,[],[]⟩:=
 hA.ok.rewrite hA.out hA.fr hc hk hN (λb hb=>⟨(hNs b hb).1.imp id .inr,(hNs b hb).2⟩) hμ hle (λh' h1 h2 _=>hcell h' h1 h2)
def Nx.after{G1:GS}{m1:Mem}(hl:WA m G m1 G1)(h:Nx base U M0 w0 w m1 G1 w' m' G'):Nx base U M0 w0 w m G w' m' G':=
 ⟨h.ok,h.E,h.out,vG hl.mem h.mem,hl.view.trans' h.view,h.fr⟩
def Tz{b:Nat}{cs:Array Value}{M:List Nat}(hb:b∈M):Keep M w (w.setRow b cs):=
 ⟨rfl,rfl,rfl,by simp[World.setRow],λk _ hk=>setRow_other w b k cs (λe=>hk (e ▸ hb))⟩
def Vf{o:Obj}{M:List Nat}:Keep M w (w.alloc o):=⟨rfl,rfl,rfl,by simp,λk hk _=>heap_alloc_old w o k hk⟩
def XR{M:List Nat}:Keep M w w.drew:=⟨rfl,rfl,rfl,Nat.le_refl _,λ_ _ _=>rfl⟩
def O4{H:Heap}{h:View}:∀{r:Row} {cs cs':List Value} {N:List Nat},cs.take r.length=cs'.take r.length->iO H h r cs N->iO H h r cs' N
 |[],_,_,_,_,q=>by simpa[iO] using q
 |x::r,cs,cs',N,e,q=>by
  obtain⟨v,cs1,N1,N2,rfl,rfl,h1,h2⟩:=LG q;cases cs' with
  |nil=>simp at e
  |cons v' aAh=>simp only[mV,List.take_succ_cons,List.cons.injEq] at e;obtain⟨rfl,e⟩:=e;simp only[iO];exact⟨v,aAh,N1,N2,rfl,rfl,h1,O4 e h2⟩
def zJ{H:Heap}{h:View}:∀{a b:Row} {cs:List Value} {N:List Nat},iO H h (a++b) cs N↔∃N1 N2,N=N1++N2∧iO H h a cs N1∧iO H h b (cs.drop a.length) N2
 |[],b,cs,N=>by
  simp only[List.nil_append,iO,um,List.drop_zero];constructor
  ·intro q;exact⟨[],N,rfl,rfl,q⟩
  ·rintro⟨N1,N2,rfl,rfl,q⟩;simpa using q
 |x::a,b,cs,N=>by
  simp only[TV,iO];constructor
  ·rintro⟨v,cs',N1,N2,rfl,rfl,h1,h2⟩;obtain⟨N3,N4,rfl,h3,h4⟩:=zJ.1 h2;exact⟨N1++N3,N4,by simp,⟨v,cs',N1,N3,rfl,rfl,h1,h3⟩,by simpa using h4⟩
  ·rintro⟨N1,N2,rfl,⟨v,cs',N3,N4,rfl,rfl,h1,h3⟩,h4⟩;exact⟨v,cs',N3,N4++N2,rfl,by simp,h1,zJ.2 ⟨N4,N2,rfl,h3,by simpa using h4⟩⟩
def aeN{H:Heap}{h:View}:∀{r:Row} {cs:List Value} {N:List Nat},iO H h r cs N->r.length<=cs.length
 |[],_,_,_=>by simp
 |x::r,cs,N,q=>by obtain⟨v,cs',N1,N2,rfl,rfl,_,h2⟩:=LG q;have:=aeN h2;simp;omega
def FP{α:Type}{l xs:List α}{o:Nat}(h:o+xs.length<=l.length):(splice l o xs).length=l.length:=by simp[splice];omega
def ajp{H:Heap}{h:View}{row xs:Row}{cs gs:List Value}{N N1:List Nat}{o:Nat}(q:iO H h row cs N)(q1:iO H h xs gs N1)(hl:xs.length=gs.length)(ho:o+xs.length<=row.length):
  ∃N' Dr,iO H h (splice row o xs) (splice cs o gs) N'∧(N'++Dr).Perm (N++N1):=by
 have hrow:row=row.take o++((row.drop o).take xs.length++row.drop (o+xs.length)):=by rw[<-List.drop_drop,List.take_append_drop,List.take_append_drop]
 have hcl:=aeN q;rw[hrow] at q;obtain⟨Na,Nb,rfl,qa,qb⟩:=zJ.1 q;obtain⟨Nc,Nd,rfl,qc,qd⟩:=zJ.1 qb;have l1:(row.take o).length=o:=by simp;omega
 have l2:((row.drop o).take xs.length).length=xs.length:=by simp;omega
 rw[l1,List.drop_drop,l2] at qd;refine⟨Na++(N1++Nd),Nc, ?_, ?_⟩
 ·have e:splice row o xs=row.take o++(xs++row.drop (o+xs.length)):=by simp[splice]
  rw[e];refine zJ.2 ⟨Na,N1++Nd,rfl, ?_, ?_⟩
  ·refine O4 ?_ qa;rw[l1];simp only[splice,BO];rw[List.take_append_of_le_length (by simp;omega)];rw[List.take_take];congr 1;omega
  ·rw[l1];have hd:(splice cs o gs).drop o=gs++cs.drop (o+gs.length):=by
    simp only[splice,BO];rw[List.drop_append_of_le_length (by simp;omega)];have:(cs.take o).drop o=[]:=by simp
    rw[this];rfl
   rw[hd];refine zJ.2 ⟨N1,Nd,rfl, ?_, ?_⟩
   ·refine O4 ?_ q1;rw[hl];simp
   ·rw[hl];rw[hl] at qd;simpa using qd
 ·simp only[BO];refine List.Perm.append_left Na ?_;have h1:(N1++(Nd++Nc)).Perm ((Nd++Nc)++N1):=List.perm_append_comm;have h2:((Nd++Nc)++N1).Perm ((Nc++Nd)++N1):=List.Perm.append_right N1 List.perm_append_comm;simpa using h1.trans h2
def TA{H:Heap}{h:View}{s:Nat}:∀{rs:List Row} {cs cs':List Value} {N:List Nat},cs.take (rs.length * s)=cs'.take (rs.length * s)->fO H h s rs cs N->fO H h s rs cs' N
 |[],_,_,_,_,q=>by simpa[fO] using q
 |r::rs,cs,cs',N,e,q=>by
  simp only[fO] at q⊢;obtain⟨h1,N1,N2,rfl,h2,h3⟩:=q;have hs:(r::rs).length * s=s+rs.length * s:=by simp[Nat.add_mul];omega
  rw[hs] at e;refine⟨h1,N1,N2,rfl,O4 ?_ h2,TA ?_ h3⟩
  ·rw[h1];have:=congrArg (List.take s) e;simpa[List.take_take,Nat.min_eq_left] using this
  ·have:=congrArg (List.drop s) e;simpa[List.drop_take] using this
def Bh{H:Heap}{h:View}{s:Nat}:∀{a b:List Row} {cs:List Value} {N:List Nat},fO H h s (a++b) cs N↔∃N1 N2,N=N1++N2∧fO H h s a cs N1∧fO H h s b (cs.drop (a.length * s)) N2
 |[],b,cs,N=>by
  simp only[List.nil_append,fO,um,Nat.zero_mul,List.drop_zero];constructor
  ·intro q;exact⟨[],N,rfl,rfl,q⟩
  ·rintro⟨N1,N2,rfl,rfl,q⟩;simpa using q
 |x::a,b,cs,N=>by
  have hs:(x::a).length * s=s+a.length * s:=by simp[Nat.add_mul];omega
  simp only[TV,fO,hs];constructor
  ·rintro⟨h0,N1,N2,rfl,h1,h2⟩;obtain⟨N3,N4,rfl,h3,h4⟩:=Bh.1 h2;exact⟨N1++N3,N4,by simp,⟨h0,N1,N3,rfl,h1,h3⟩,by simpa using h4⟩
  ·rintro⟨N1,N2,rfl,⟨h0,N3,N4,rfl,h1,h3⟩,h4⟩;exact⟨h0,N3,N4++N2,by simp,h1,Bh.2 ⟨N4,N2,rfl,h3,by simpa using h4⟩⟩
def MR{h:View}:∀{r:Row} {cs cs':List Value},cs.take r.length=cs'.take r.length->iU h r cs->iU h r cs'
 |[],_,_,_,_=>trivial
 |x::r,cs,cs',e,⟨v,cs1,e1,h1,h2⟩=>by
  subst e1;cases cs' with
  |nil=>simp at e
  |cons v' aAh=>simp only[mV,List.take_succ_cons,List.cons.injEq] at e;obtain⟨rfl,e⟩:=e;exact⟨v,aAh,rfl,h1,MR e h2⟩
def CU{h:View}:∀{a b:Row} {cs:List Value},iU h (a++b) cs↔iU h a cs∧iU h b (cs.drop a.length)
 |[],b,cs=>by simp[iU]
 |x::a,b,cs=>by
  simp only[TV,iU];constructor
  ·rintro⟨v,cs',rfl,h1,h2⟩;obtain⟨h3,h4⟩:=CU.1 h2;exact⟨⟨v,cs',rfl,h1,h3⟩,by simpa using h4⟩
  ·rintro⟨⟨v,cs',rfl,h1,h3⟩,h4⟩;exact⟨v,cs',rfl,h1,CU.2 ⟨h3,by simpa using h4⟩⟩
def Y4{h:View}:∀{r:Row} {cs:List Value},iU h r cs->r.length<=cs.length
 |[],_,_=>by simp
 |x::r,cs,⟨v,cs',e,_,h2⟩=>by subst e;have:=Y4 h2;simp;omega
def aeO{h:View}{row xs:Row}{cs gs:List Value}{o:Nat}(q:iU h row cs)(q1:iU h xs gs)(hl:xs.length=gs.length)(ho:o+xs.length<=row.length):iU h (splice row o xs) (splice cs o gs):=by
 have hrow:row=row.take o++((row.drop o).take xs.length++row.drop (o+xs.length)):=by rw[<-List.drop_drop,List.take_append_drop,List.take_append_drop]
 have hcl:=Y4 q;rw[hrow] at q;obtain⟨qa,qb⟩:=CU.1 q;obtain⟨qc,qd⟩:=CU.1 qb;have l1:(row.take o).length=o:=by simp;omega
 have l2:((row.drop o).take xs.length).length=xs.length:=by simp;omega
 rw[l1,List.drop_drop,l2] at qd;have e:splice row o xs=row.take o++(xs++row.drop (o+xs.length)):=by simp[splice]
 rw[e];refine CU.2 ⟨?_, ?_⟩
 ·refine MR ?_ qa;rw[l1];simp only[splice,BO];rw[List.take_append_of_le_length (by simp;omega)];rw[List.take_take];congr 1;omega
 ·rw[l1];have hd:(splice cs o gs).drop o=gs++cs.drop (o+gs.length):=by
   simp only[splice,BO];rw[List.drop_append_of_le_length (by simp;omega)];have:(cs.take o).drop o=[]:=by simp
   rw[this];rfl
  rw[hd];refine CU.2 ⟨MR (by rw[hl];simp) q1, ?_⟩;rw[hl];rw[hl] at qd;simpa using qd
def uO{h:View}{s:Nat}:∀{rs:List Row} {cs cs':List Value},cs.take (rs.length * s)=cs'.take (rs.length * s)->gu h s rs cs->gu h s rs cs'
 |[],_,_,_,_=>trivial
 |r::rs,cs,cs',e,⟨h1,h2,h3⟩=>by
  have hs:(r::rs).length * s=s+rs.length * s:=by simp[Nat.add_mul];omega
  rw[hs] at e;refine⟨h1,MR ?_ h2,uO ?_ h3⟩
  ·rw[h1];have:=congrArg (List.take s) e;simpa[List.take_take,Nat.min_eq_left] using this
  ·have:=congrArg (List.drop s) e;simpa[List.drop_take] using this
def zx{h:View}{s:Nat}:∀{a b:List Row} {cs:List Value},gu h s (a++b) cs↔gu h s a cs∧gu h s b (cs.drop (a.length * s))
 |[],b,cs=>by simp[gu]
 |x::a,b,cs=>by
  have hs:(x::a).length * s=s+a.length * s:=by simp[Nat.add_mul];omega
  simp only[TV,gu,hs];rw[zx,List.drop_drop];constructor
  ·rintro⟨h0,h1,h2,h3⟩;exact⟨⟨h0,h1,h2⟩,h3⟩
  ·rintro⟨⟨h0,h1,h2⟩,h3⟩;exact⟨h0,h1,h2,h3⟩
end
end Go.Vm
namespace Go.Vm
open Go
section
variable {base:Nat} {U:Nat->Prop} {M0:List Nat} {w0 w w':World} {m m':Mem} {G G':GS} {P:Program}
def Qy{α:Type}{l:List α}{i:Nat}{a b:α}(h:l[i]? =some a):l.set i b=l.take i++(b::l.drop (i+1))∧l=l.take i++(a::l.drop (i+1)):=by
 have hi:=(MG.1 h).1;have ha:=(MG.1 h).2;refine⟨?_, ?_⟩
 ·rw[List.set_eq_take_append_cons_drop,if_pos hi]
 ·rw[<-ha,List.getElem_cons_drop,List.take_append_drop]
def aoo{H:Heap}{h:View}{s i o:Nat}{rows:List Row}{row xs:Row}{cs gs:List Value}{N N1:List Nat}(q:fO H h s rows cs N)(hi:rows[i]? =some row)(q1:iO H h xs gs N1)(hl:xs.length=gs.length)(ho:o+xs.length<=s):
  ∃N' Dr,fO H h s (rows.set i (splice row o xs)) (splice cs (i * s+o) gs) N'∧(N'++Dr).Perm (N++N1):=by
 obtain⟨e1,e2⟩:=Qy (b:=splice row o xs) hi;have hil:=(MG.1 hi).1;rw[e2] at q;obtain⟨Na,Nb,rfl,qa,qb⟩:=Bh.1 q;have l1:(rows.take i).length=i:=by simp;omega
 rw[l1] at qb;simp only[fO] at qb;obtain⟨h0,Nc,Nd,rfl,qc,qd⟩:=qb;have hcl:=aeN qc;simp only[List.length_drop] at hcl;obtain⟨N',Dr,qe,hp⟩:=ajp (o:=o) qc q1 hl au;have aop:(splice row o xs).length=s:=by rw[FP (l:=row) (xs:=xs) (o:=o) au];exact h0
 have his:i * s<=cs.length:=by
  rcases Nat.eq_zero_or_pos s with e|e
  ·rw[e];simp
  ·omega
 refine⟨Na++(N'++Nd),Dr, ?_, ?_⟩
 ·rw[e1];refine Bh.2 ⟨Na,N'++Nd,rfl, ?_, ?_⟩
  ·refine TA ?_ qa;rw[l1];simp only[splice,BO];rw[List.take_append_of_le_length (by simp;omega),List.take_take];congr 1;omega
  ·rw[l1];have hd:(splice cs (i * s+o) gs).drop (i * s)=splice (cs.drop (i * s)) o gs:=by simp only[splice];rw[BO,List.drop_append_of_le_length (by simp;omega),List.drop_take,List.drop_drop];rw[show i * s+o - i * s=o from by omega,BO,Nat.add_assoc]
   simp only[fO,hd];refine⟨aop,N',Nd,rfl,qe, ?_⟩;have hd2:(splice (cs.drop (i * s)) o gs).drop s=(cs.drop (i * s)).drop s:=by simp only[splice];rw[List.drop_append,List.drop_eq_nil_of_le (by simp;omega)];simp only[List.nil_append,List.drop_drop,qx,Ui,List.length_drop];congr 1;omega
   rw[hd2];exact qd
 ·simp only[BO];refine List.Perm.append_left Na ?_;have h1:(N'++(Nd++Dr)).Perm (N'++(Dr++Nd)):=List.Perm.append_left N' List.perm_append_comm;have h2:((N'++Dr)++Nd).Perm ((Nc++N1)++Nd):=List.Perm.append_right Nd hp;have h3:(Nc++(N1++Nd)).Perm (Nc++(Nd++N1)):=List.Perm.append_left Nc List.perm_append_comm;have h2':(N'++(Dr++Nd)).Perm (Nc++(N1++Nd)):=by simpa using h2
  exact h1.trans (h2'.trans h3)
def ajq{h:View}{s i o:Nat}{rows:List Row}{row xs:Row}{cs gs:List Value}(q:gu h s rows cs)(hi:rows[i]? =some row)(q1:iU h xs gs)(hl:xs.length=gs.length)(ho:o+xs.length<=s):
  gu h s (rows.set i (splice row o xs)) (splice cs (i * s+o) gs):=by
 obtain⟨e1,e2⟩:=Qy (b:=splice row o xs) hi;have hil:=(MG.1 hi).1;rw[e2] at q;obtain⟨qa,qb⟩:=zx.1 q;have l1:(rows.take i).length=i:=by simp;omega
 rw[l1] at qb;obtain⟨h0,qc,qd⟩:=qb;have hcl:=Y4 qc;simp only[List.length_drop] at hcl;have qe:=aeO (o:=o) qc q1 hl au;have aop:(splice row o xs).length=s:=by rw[FP (l:=row) (xs:=xs) (o:=o) au];exact h0
 have his:i * s<=cs.length:=by
  rcases Nat.eq_zero_or_pos s with e|e
  ·rw[e];simp
  ·omega
 rw[e1];refine zx.2 ⟨?_, ?_⟩
 ·refine uO ?_ qa;rw[l1];simp only[splice,BO];rw[List.take_append_of_le_length (by simp;omega),List.take_take];congr 1;omega
 ·rw[l1];have hd:(splice cs (i * s+o) gs).drop (i * s)=splice (cs.drop (i * s)) o gs:=by simp only[splice];rw[BO,List.drop_append_of_le_length (by simp;omega),List.drop_take,List.drop_drop];rw[show i * s+o - i * s=o from by omega,BO,Nat.add_assoc]
  rw[hd];refine⟨aop,qe, ?_⟩;have hd2:(splice (cs.drop (i * s)) o gs).drop s=(cs.drop (i * s)).drop s:=by simp only[splice];rw[List.drop_append,List.drop_eq_nil_of_le (by simp;omega)];simp only[List.nil_append,List.drop_drop,qx,Ui,List.length_drop];congr 1;omega
  rw[hd2];exact qd
def At.took(hA:At base U M0 w0 w m G){N:List Nat}(ht:OM base U w m G m' G' N):G'.E=N∧G'.out=[]∧Fr M0 w0 w G':=
 ⟨by rw[ht.E,hA.E];rfl,ht.out.trans hA.out,hA.fr.less ht.le.ex⟩
def apl(k:Nat)(c c':Cell):∀m:Mem,put k c (put k c' m)=put k c m
 |[]=>by simp[put]
 |(j,y)::m=>by
  have hk:Nat.beq k k=true:=Nat.beq_refl k
  by_cases h:k=j
  ·subst h;simp[put]
  ·have hb:Nat.beq k j=false:=wO h;cases hl:Nat.blt k j with
   |true=>simp[put,hb,hl]
   |false=>simp[put,hb,hl,apl k c c' m]
def At.settle(hA:At base U M0 w0 w m G){r:Nat}{T:TypeId}{x:V}(hc:get r m=some (.box T [x])):∃G',Nx base U M0 w0 w m G w (put r (.oN T x) m) G':=by
 have hro:r ∉ G.out:=by rw[hA.out];simp
 have hle:Ho G.μ m G.μ (put r (.oN T x) m):=IG (λ_ _=>rfl) (λc h=>by rw[hc] at h;cases h;exact rfl);obtain⟨b,a,e1,e2,e3,e4⟩:=hA.ok.cell r _ hc hro;have hb:b∈G.F r:=by rw[e4];simp
 obtain⟨y,ys,ea,e5,e6⟩:=nN e3;have h1:=hA.ok.set r (.oN T x) G.μ [] G.E G.out (by simpa using hA.ok.ndE) (by simp;exact λb hb=> .inr hb) hle (λ_ _=>rfl) (λ_ _=>Iff.rfl) (λ_=>rfl)
  (λhv _=>by
   refine⟨rfl,b,y,e1, ?_,zu hle hv _ _ e5⟩;refine Mc (w:=w) (N:=[b]) (λb' hb'=> ?_) b (by simp) a T (0,0) e2 0 y (by rw[ea];rfl);simp only[List.mem_singleton] at hb';subst hb';refine⟨(hA.ok.lt _ (.inr ⟨r,hb⟩)).2.2, ?_⟩;rintro(hE|⟨k,hk⟩)
   ·exact hA.ok.djE r _ hb hE
   ·by_cases e:k=r
    ·subst e;simp at hk
    ·rw[kC _ e] at hk;exact hA.ok.dj r k (Ne.symm e) _ hb hk)
 exact⟨_,hA.still h1.1 h1.2 hA.out⟩
def ar9{off:Nat}{cs:List V}{x:V}(h:kept off cs x=true):off=0∧cs=[.undef]∧∃r o,x=.ptr r o:=by
 unfold kept at h;split at h
 ·exact⟨rfl,rfl,_,_,rfl⟩
 ·cases h
def aqo(hA:At base U M0 w0 w m G){t:TypeId}{a x:V}{ga gx:Value}(ha:aK G.μ m (Gh U w G) a ga)(hx:aK G.μ m (Gh U w G) x gx){u:Unit}{l l':Log}(h:(aoe P t a x).run m l=some (u,m',l')):
  ∃w' G',(Instr.storeAt t ga gx).run P w=.ok () w'∧Nx base U M0 w0 w m G w' m' G':=by
 simp only[aoe] at h;replace h:=aj h;obtain⟨_,m1,l1,h1,h⟩:=h;obtain⟨hok,rfl,rfl⟩:=dN h1;replace h:=aj h;obtain⟨_,m1,l1,h1,h⟩:=h;obtain⟨hlen,rfl,rfl⟩:=dN h1;replace h:=aj h;obtain⟨_,m1,l1,h1,h⟩:=h;obtain⟨hone,rfl,rfl⟩:=dN h1;have hlen:=yD hlen;obtain⟨hxs,hx1⟩:=cells_ok hone hx;have hgl:gx.cells.size=mQ P t:=by rw[<-hlen,<-kV hxs,Array.length_toList]
 cases a with
 |ptr r off=>
  simp only at h;replace h:=aj h;obtain⟨c,m2,l2,h2,h⟩:=h;rw[wP] at h2;cases h2;cases hc:get r m1 with
  |none=>rw[hc] at h;exact(ak h).elim
  |some c=>
   rw[hc] at h;cases c with
   |arr _ _ _ _ _=>exact(ak h).elim
   |dead=>exact(ak h).elim
   |Iy _ _ _=>exact(ak h).elim
   |oN _ _=>exact(ak h).elim
   |box T cs=>
    simp only at h;replace h:=aj h;obtain⟨_,m2,l2,h2,h⟩:=h;obtain⟨hfit,rfl,rfl⟩:=dN h2;simp only[aK,hc] at ha;obtain⟨_,b,hμ,rfl⟩:=ha;obtain⟨b',arr,e1,e2,e3,e4⟩:=hA.ok.cell r _ hc (by rw[hA.out];simp);rw[hμ] at e1;cases e1;have hal:arr.size=cs.length:=by simpa using kV e3
    have hfit:=Nat.le_of_ble_eq_true hfit;have hrun:=acr (P:=P) hok e2 hgl (off:=off) au hx1;have hb:b∈G.F r:=by rw[e4];simp
    have hnx:=hA.rewrite (c':=.box T (splice cs off x.cells)) (w':=w.setRow b (splice arr.toList off gx.cells.toList).toArray) (μ':=G.μ) (N:=[b]) hc (Tz hb) (by simp) (λk hk=>by
     simp at hk;subst hk;refine⟨.inl hb, ?_⟩;have:=(hA.ok.lt _ (.inr ⟨r,hb⟩)).1;simpa[World.setRow] using this) (λ_ _=>rfl) ⟨rfl,rfl⟩ (λh' hv hml=>by
     refine⟨b,_,hμ,setRow_heap w b arr _ T (0,0) e2, ?_,rfl⟩;have:=Vb off e3 hxs;simpa using uo hml hv _ _ this)
    cases hkp:kept off cs x with
    |false=>rw[hkp] at h;simp only[FZ,iq,jM] at h;obtain⟨_,rfl,_⟩:=h;exact⟨_,_,hrun,hnx⟩
    |true=>rw[hkp] at h;simp only[FZ,iq,jM] at h;obtain⟨_,rfl,_⟩:=h;obtain⟨rfl,rfl,r',o',rfl⟩:=ar9 hkp;have hsp:splice [V.undef] 0 (V.ptr r' o').cells=[V.ptr r' o']:=rfl;rw[hsp] at hnx;obtain⟨G',hnx2⟩:=hnx.at_.settle (r:=r) (T:=T) (x:=.ptr r' o') (jo _ _ _);rw[apl] at hnx2;exact⟨_,_,hrun,hnx.trans hnx2⟩
 |wW r ver i off=>
  simp only at h;replace h:=aj h;obtain⟨xs,m2,l2,h2,h⟩:=h;obtain⟨G1,N1,t1,hrow,hxl⟩:=Uo hA.ok hxs hA.out h2;obtain⟨hE1,ho1,aeP⟩:=hA.took t1;replace h:=aj h;obtain⟨c,m3,l3,h3,h⟩:=h;rw[wP] at h3;cases h3;replace ha:=t1.le.aK ha;cases hc:get r m2 with
  |none=>rw[hc] at h;exact(ak h).elim
  |some c=>
   rw[hc] at h;cases c with
   |box _ _=>exact(ak h).elim
   |dead=>exact(ak h).elim
   |Iy _ _ _=>exact(ak h).elim
   |oN _ _=>exact(ak h).elim
   |arr fz fl jf s rows=>
    cases fz with
    |true=>exact(ak h).elim
    |false=>
    simp only at h;replace h:=aj h;obtain⟨_,m4,l4,h4,h⟩:=h;obtain⟨hb,rfl,rfl⟩:=dN h4;have hb:=yD hb;subst hb;replace h:=aj h;obtain⟨_,m4,l4,h4,h⟩:=h;obtain⟨hfit,rfl,rfl⟩:=dN h4;have hfit:=Nat.le_of_ble_eq_true hfit;replace h:=aj h;obtain⟨row,m4,l4,h4,h⟩:=h;obtain⟨hrw,rfl,rfl⟩:=iw h4;simp only[FZ,iq,jM] at h;obtain⟨_,rfl,_⟩:=h;simp only[aK,hc] at ha;obtain⟨b,n,cap,hμ,rfl⟩:=ha.2.2 trivial;have hcell:=t1.ok.cell r _ hc (by rw[ho1];simp);have hne:rows≠[]:=by intro e;subst e;simp at hrw
    have hil:=(MG.1 hrw).1;simp only[nX] at hcell;rcases hcell with⟨e,_,_⟩|⟨b',cap',cs,T,N',k1,k2,k3,k4,k5,k6⟩
    ·exact absurd e hne
    rw[hμ] at k1;simp only[Value.slice.injEq,iq,Addr.mk.injEq] at k1;obtain⟨⟨rfl,_⟩,rfl,rfl⟩:=k1;have hbF:b∈G1.F r:=by rw[k6];simp
    have asa:xs.length=gx.cells.toList.length:=by rw[hxl,kV hxs]
    have hsz:i * s+off+gx.cells.size<=cs.size:=by rw[k4,hgl];have:(i+1) * s<=cap * s:=Nat.mul_le_mul_right s au;rw[Nat.add_mul] at this;omega
    have hrun:=acr (P:=P) hok k3 hgl (off:=i * s+off) hsz hx1;have hh:=setRow_heap w b cs (splice cs.toList (i * s+off) gx.cells.toList).toArray T (0,0) k3;have aEa:off+xs.length<=s:=by rw[asa,Array.length_toList,hgl];exact hfit
    have aEb:(splice cs.toList (i * s+off) gx.cells.toList).length=cs.size:=by rw[FP (by simpa using hsz)];simp
    have key:∃N2,N2.Nodup∧(fl=true->N2=[])∧(∀k,k∈N2->k∈G1.F r∨k∈G1.E)∧∀h':View,(Gh U w G1).le h'->(fl=true->abb h' (dG w) N1)->V6 (dG (w.setRow b (splice cs.toList (i * s+off) gx.cells.toList).toArray)) h' fl s (rows.set i (splice row off xs)) (G1.μ r) (b::N2)∧b ∉ N2:=by
     have hoth:∀k,k≠b->dG (w.setRow b (splice cs.toList (i * s+off) gx.cells.toList).toArray) k=dG w k:=λk hk=>setRow_other w b k _ hk
     cases fl with
     |true=>
      refine⟨[],by simp,λ_=>rfl,by simp,λh' hv hs=>⟨.inr ⟨b,cap,_,T,[], ?_, ?_,hh, ?_,⟨?_,rfl⟩,rfl⟩,by simp⟩⟩
      ·rw[hμ];simp
      ·simpa using k2
      ·simpa[aEb] using k4
      ·have q1:iU h' xs gx.cells.toList:=YV hv xs _ N1 (hs rfl) hrow;simpa using ajq (oO hv s rows _ k5.1) hrw q1 asa aEa
     |false=>
      obtain⟨N2,Dr,q1,hp⟩:=aoo k5 hrw hrow asa aEa;have aUH:(N'++N1).Nodup:=by have h1:=t1.ok.nd r;rw[k6] at h1;have h2:=t1.ok.ndE;rw[hE1] at h2;exact List.nodup_append.2 ⟨(List.nodup_cons.1 h1).2,h2,λx hx y hy e=>t1.ok.djE r x (by rw[k6];simp[hx]) (by rw[hE1,e];exact hy)⟩
      have hnd:=List.nodup_append.1 (hp.nodup_iff.2 aUH);have hmem:∀k,k∈N2->k∈N'∨k∈N1:=λk hk=>by simpa using hp.mem_iff.1 (List.mem_append_left Dr hk)
      have hbn:b ∉ N2:=by
       intro hb2;rcases hmem b hb2 with h|h
       ·have:=t1.ok.nd r;rw[k6] at this;exact(List.nodup_cons.1 this).1 h
       ·exact t1.ok.djE r b hbF (by rw[hE1];exact h)
      refine⟨N2,hnd.1,(λe=>by cases e),λk hk=> ?_,λh' hv _=>⟨.inr ⟨b,cap,_,T,N2, ?_, ?_,hh, ?_, ?_,rfl⟩,hbn⟩⟩
      ·rcases hmem k hk with h|h
       ·left;rw[k6];simp[h]
       ·right;rw[hE1];exact h
      ·rw[hμ];simp
      ·simpa using k2
      ·simpa[aEb] using k4
      ·have:=zH hv s _ _ N2 (λk hk=>hoth k (λe=>hbn (e ▸ hk))) q1;simpa using this
    obtain⟨N2,hN2,aUI,aUJ,QN⟩:=key;refine⟨_,_,hrun,Nx.after t1.le (t1.ok.rewrite ho1 aeP (μ':=G1.μ) (N:=b::N2) hc (Tz hbF) ?_ ?_ (λ_ _=>rfl) ⟨Nat.le_refl _,rfl,λ_=>⟨rfl,rfl⟩⟩ ?_)⟩
    ·exact List.nodup_cons.2 ⟨(QN (full w) (uN _ _ _) (λ_=>ahL)).2,hN2⟩
    ·intro k hk;have hsz':(w.setRow b (splice cs.toList (i * s+off) gx.cells.toList).toArray).heap.size=w.heap.size:=by simp[World.setRow]
     rw[hsz'];simp only[List.mem_cons] at hk;rcases hk with rfl|hk
     ·exact⟨.inl hbF,(t1.ok.lt _ (.inr ⟨r,hbF⟩)).1⟩
     ·rcases aUJ k hk with h|h
      ·exact⟨.inl h,(t1.ok.lt _ (.inr ⟨r,h⟩)).1⟩
      ·exact⟨.inr (.inl h),(t1.ok.lt _ (.inl h)).1⟩
    ·intro h' hv hml awJ;refine(QN h' hv (λhfl=> ?_)).1;intro k hk;have hkE:k∈G1.E:=by rw[hE1];exact hk
     refine awJ k hkE ?_ k (by simp);rw[aUI hfl];simp only[List.mem_singleton];intro e;subst e;exact t1.ok.djE r _ hbF hkE
 |d _=>exact(ak h).elim
 |nil _=>exact(ak h).elim
 |own _ _=>exact(ak h).elim
 |qO _ _=>exact(ak h).elim
 |zo _=>exact(ak h).elim
 |clo _ _ _=>exact(ak h).elim
 |agg _=>exact(ak h).elim
 |BU _=>exact(ak h).elim
 |undef=>exact(ak h).elim
end
end Go.Vm
namespace Go.Vm
open Go
section
variable {base:Nat} {U:Nat->Prop} {M0:List Nat} {w0 w w':World} {m m':Mem} {G G':GS} {P:Program}
def Gf.fresh(hg:Gf base U w m G)(ho:G.out=[])(hfr:Fr M0 w0 w G){k:Nat}{c':Cell}{gv:Value}{N:List Nat}(hn:get k m=none)(hk:Keep [] w w')(hN:N.Nodup)
  (hNs:∀b,b∈N->(b∈G.E∨w.heap.size<=b)∧b<w'.heap.size)
  (hcell:∀h':View,(Gh U w G).le h'->Ho G.μ m (upM G.μ k gv) (put k c' m)->(∀j,j∈G.E->j ∉ N->abb h' (dG w) [j])->nX (upM G.μ k gv) (put k c' m) (dG w') h' k c' N):
  Nx base U M0 w0 w m G w' (put k c' m) ⟨upM G.μ k gv,ZK G.F k N,[],[]⟩:=by
 have hk':Keep G.E w w':=⟨hk.os,hk.tape,hk.output,hk.size,λb hb _=>hk.block b hb (by simp)⟩
 obtain⟨q1,q2⟩:=Gf.world hg hk' (E':=N) hN hNs;have hμ:∀j,j≠k->upM G.μ k gv j=G.μ j:=λj e=>O1 gv e
 have hml:Ho G.μ m (upM G.μ k gv) (put k c' m):=IG hμ (λc0 h0=>by rw[hn] at h0;cases h0);have hFk:G.F k=[]:=hg.none_ k hn;have hset:=Gf.set (U:=U) (w:=w') q1 k c' (upM G.μ k gv) N [] [] (by simpa using hN) (by simp;exact λb hb=> .inr hb) hml hμ (λj hj=>by simp[ho]) (by simp)
  (λhv _=>hcell _ (q2.trans' hv) hml (λj hjE hjN b hb cs t fr hH o v hv=>by
   have hb:=List.mem_singleton.1 hb;rw[<-hb] at hjE hjN;have hlt:=hg.lt b (.inl hjE);have hsame:dG w' b=dG w b:=hk.block b hlt.1 (by simp);refine Mc (w:=w') (N:=[b]) (λx hx=> ?_) b (by simp) cs t fr (hsame.trans hH) o v hv;rw[List.mem_singleton.1 hx];refine⟨hlt.2.2, ?_⟩;rintro(h|⟨i,h⟩)
   ·simp at h
   ·by_cases e:i=k
    ·subst e;rw[Fe] at h;exact hjN h
    ·rw[kC _ e] at h;exact hg.djE i b h hjE))
 obtain⟨s1,s2⟩:=hset;refine⟨s1,rfl,rfl,hml,q2.trans' s2.view, ?_⟩;refine⟨hfr.keep.trans hk (by simp), ?_⟩;rintro b (hb|⟨i,hb⟩)
 ·simp at hb
 ·by_cases e:i=k
  ·subst e;simp only[Fe] at hb;rcases(hNs b hb).1 with h|h
   ·exact hfr.fr b (.inl h)
   ·exact .inr (Nat.le_trans hfr.keep.size h)
  ·simp only[kC _ e] at hb;exact hfr.fr b (.inr ⟨i,hb⟩)
def RV{w1:World}{o:Obj}(h:w1.heap=w.heap):dG (w1.alloc o) w.heap.size=some o:=by have:=heap_alloc_new w1 o;rw[h] at this;exact this
def ahW(hA:At base U M0 w0 w m G){k:Nat}{T:TypeId}{cs:List V}{arr:Array Value}(hs:bW G.μ m (Gh U w G) cs arr.toList){u:Unit}{l l':Log}(h:(new k (.box T cs)).run m l=some (u,m',l')):
  ∃G',Nx base U M0 w0 w m G (w.alloc (.cells arr T)) m' G'∧aK G'.μ m' (Gh U (w.alloc (.cells arr T)) G') (.ptr k 0) (.pointer (some ⟨w.heap.size,0,none⟩)):=by
 obtain⟨hn,rfl⟩:=Z7 h;refine⟨_,hA.ok.fresh hA.out hA.fr (gv:=.pointer (some ⟨w.heap.size,0,none⟩)) (N:=[w.heap.size]) hn Vf (by simp) (λb hb=>by simp at hb;subst hb;simp) (λh' hv hml _=> ?_), ?_⟩
 ·exact⟨w.heap.size,arr,by simp,RV rfl,uo hml hv _ _ hs,rfl⟩
 ·simp[aK,jo,Un,awD]
def aeQ(hg:Gf base U w m G)(ho:G.out=[])(hfr:Fr M0 w0 w G){w1:World}(hw1:w1.heap=w.heap)(hk1:Keep [] w w1){k:Nat}{fl:Bool}{s cap:Nat}{rows:List Row}{arr:Array Value}{T:TypeId}(hq:fO (dG w) (Gh U w G) s rows arr.toList G.E)
  (hcap:rows.length<=cap) (hsz:arr.size=cap * s) {u:Unit} {l l':Log} (h:(new k (.arr false fl 0 s rows)).run m l=some (u,m',l')):
  ∃G',Nx base U M0 w0 w m G (w1.alloc (.cells arr T)) m' G'∧aK G'.μ m' (Gh U (w1.alloc (.cells arr T)) G') (.own k 0) (.slice (some ⟨w.heap.size,0,none⟩) rows.length cap):=by
 obtain⟨hn,rfl⟩:=Z7 h;have hsize:(w1.alloc (.cells arr T)).heap.size=w.heap.size+1:=by rw[World.size_alloc,hw1]
 have hkeep:Keep [] w (w1.alloc (.cells arr T)):=hk1.trans (Vf (M:=[])) (by simp);have hnE:w.heap.size ∉ G.E:=λhE=>by have:=(hg.lt _ (.inl hE)).1;omega
 have hnew:dG (w1.alloc (.cells arr T)) w.heap.size=some (.cells arr T (0,0)):=RV hw1;refine⟨_,hg.fresh ho hfr (gv:=.slice (some ⟨w.heap.size,0,none⟩) rows.length cap) (N:=w.heap.size::(match fl with|true=>[]|false=>G.E)) hn hkeep ?_ ?_ ?_, ?_⟩
 ·cases fl with
  |true=>simp
  |false=>exact List.nodup_cons.2 ⟨hnE,hg.ndE⟩
 ·intro b hb;simp only[List.mem_cons] at hb;rcases hb with rfl|hb
  ·exact⟨.inr (Nat.le_refl _),by rw[hsize];omega⟩
  ·cases fl with
   |true=>simp at hb
   |false=>exact⟨.inl hb,by rw[hsize];have:=(hg.lt b (.inl hb)).1;omega⟩
 ·intro h' hv hml awJ;simp only[nX,MO];refine .inr ⟨w.heap.size,cap,arr,T,_,rfl,hcap,hnew,hsz, ?_,rfl⟩;cases fl with
  |true=>refine⟨L9 hv s rows _ _ (λb hb=> ?_) hq,rfl⟩;refine awJ b hb ?_ b (by simp);simp only[List.mem_singleton];intro e;exact hnE (e ▸ hb)
  |false=>exact zH hv s rows _ _ (λb hb=>hkeep.block b (hg.lt b (.inl hb)).1 (by simp)) hq
 ·simp[aK,jo,Un,awD]
def Vg(off:Nat):∀(xs:List Value) (k:Nat) (cells:Array Value),off+k+xs.length<=cells.size->
  ((xs.zipIdx k).foldl (λcs (c,j)=>cs.setIfInBounds (off+j) c) cells).toList=splice cells.toList (off+k) xs
 |[],k,cells,h=>by simp[splice]
 |x::xs,k,cells,h=>by simp only[mV] at h;simp only[List.zipIdx_cons,List.foldl_cons];rw[Vg off xs (k+1) _ (by simp;omega)];have e:=list_seg_step cells.toList (off+k) x xs (by simp;omega);simpa[splice,Array.toList_setIfInBounds,Nat.add_assoc] using e
end
end Go.Vm
namespace Go.Vm
open Go
section
variable {base:Nat} {U:Nat->Prop} {M0:List Nat} {w0 w w':World} {m m':Mem} {G G':GS} {P:Program}
def Iz(base:Nat)(U:Nat->Prop)(M0:List Nat)(w0 w:World)(m:Mem)(G:GS)(P:Program)(s:Sem Value)(v:V)(m':Mem):Prop:=
 ∃g w' G',s.run P w=.ok g w'∧Nx base U M0 w0 w m G w' m' G'∧aK G'.μ m' (Gh U w' G') v g
def Iz.same(hA:At base U M0 w0 w m G){s:Sem Value}{g:Value}{v:V}(h:s.run P w=.ok g w)(hv:aK G.μ m (Gh U w G) v g):Iz base U M0 w0 w m G P s v m:=⟨g,w,G,h,hA.nx,hv⟩
def asb(hA:At base U M0 w0 w m G){T k:Nat}{z:List V}(hz:PD P T=some z){u:Unit}{l l':Log}(h:(new k (.box T z)).run m l=some (u,m',l')):
  Iz base U M0 w0 w m G P (Instr.alloc T true (.tuple #[])) (.ptr k 0) m':=by
 obtain⟨i,zv,hi,hzv,hs⟩:=RU (m:=m) (μ:=G.μ) (h:=Gh U w G) hz;obtain⟨G',hnx,QN⟩:=ahW hA hs h;refine⟨_,_,G', ?_,hnx,QN⟩;simp[Instr.alloc,zeroValue,typeInfo,hi,hzv,newVar,newRow]
def aAi(hA:At base U M0 w0 w m G){T k:Nat}{v:V}{g:Value}(hv:aK G.μ m (Gh U w G) v g)(h1:v.cells.all one=true){u:Unit}{l l':Log}(h:(new k (.box T v.cells)).run m l=some (u,m',l')):
  Iz base U M0 w0 w m G P (Instr.box T g) (.ptr k 0) m':=by
 obtain⟨hs,_⟩:=cells_ok h1 hv;obtain⟨G',hnx,QN⟩:=ahW hA hs h;refine⟨_,_,G', ?_,hnx,QN⟩;simp[Instr.box,newVar,newRow]
def acs:∀(fs:List Field),(fs.all λf=>match P.info? f.type with|some _=>true|none=>false)=true->
  ∃places,fs.mapM (λf=>(P.info? f.type).map λi=>(f.offset,i.size))=some places∧∀(j:Nat) f,fs[j]? =some f->places[j]? =some (f.offset,mQ P f.type)
 |[],_=>⟨[],by simp,by simp⟩
 |f::fs,h=>by
  simp only[List.all_cons,FN] at h;obtain⟨places,h1,h2⟩:=acs fs h.2;cases hi:P.info? f.type with
  |none=>simp[hi] at h
  |some i=>
   refine⟨(f.offset,i.size)::places,by simp[List.mapM_cons,hi,h1], ?_⟩;intro j g hj;cases j with
   |zero=>simp at hj;subst hj;simp[mQ,hi]
   |succ j=>simpa using h2 j g (by simpa using hj)
def Ym{T:TypeId}{fs:Array Field}(hu:P.underlying T=some (.struct fs)){place:Nat->Option (Nat×Nat)}(hp:∀(j:Nat) f,fs[j]? =some f->place j=some (f.offset,mQ P f.type)){tm:kU}{a:Act}
  {μ:Nat->Value} {h:View}:∀(ps:List (Nat×Operand)) {m:Mem} (_:Z9 μ m h tm a) {cs:List V} {cells:Array Value} (_:bW μ m h cs cells.toList) {out:List V} {m':Mem} {l l':Log}
  (_:(wL P T tm ps cs).run m l=some (out,m',l')),m'=m∧∃r,Instr.fill place cells (ps.map λx=>(x.1,a.eval x.2))=some r∧bW μ m h out r.toList
 |[],m,hT,cs,cells,hs,out,m',l,l',hr=>by simp only[wL,run_pure,iq,jM] at hr;obtain⟨rfl,rfl,_⟩:=hr;exact⟨rfl,cells,rfl,hs⟩
 |(f,x)::ps,m,hT,cs,cells,hs,out,m',l,l',hr=>by
  simp only[wL] at hr;replace hr:=aj hr;obtain⟨⟨o,n,t⟩,m1,l1,h1,hr⟩:=hr;obtain⟨hf,rfl,rfl⟩:=iw h1;simp only at hr;replace hr:=aj hr;obtain⟨_,m2,l2,h2,hr⟩:=hr;obtain⟨hlen,rfl,rfl⟩:=dN h2;replace hr:=aj hr;obtain⟨_,m2,l2,h2,hr⟩:=hr;obtain⟨hone,rfl,rfl⟩:=dN h2;replace hr:=aj hr;obtain⟨_,m2,l2,h2,hr⟩:=hr;obtain⟨hfit,rfl,rfl⟩:=dN h2;have hlen:=yD hlen;have hfit:=Nat.le_of_ble_eq_true hfit;obtain⟨hv,hv1⟩:=cells_ok hone (Ut hT t x);have hgl:(a.eval x).cells.size=n:=by rw[<-hlen,<-kV hv,Array.length_toList]
  have hcl:cells.size=cs.length:=by rw[<-kV hs,Array.length_toList]
  have hpl:place f=some (o,n):=by
   unfold U7 at hf;rw[hu] at hf;simp only at hf;cases hfd:fs[f]? with
   |none=>simp[hfd] at hf
   |some fd=>simp only[hfd,iq,jM] at hf;obtain⟨rfl,rfl,rfl⟩:=hf;exact hp f fd hfd
  have hsp:=Vg o (a.eval x).cells.toList 0 cells (by simp;omega);have hz:(a.eval x).cells.zipIdx.foldl (λcs (c,j)=>cs.setIfInBounds (o+j) c) cells=(splice cells.toList o (a.eval x).cells.toList).toArray:=by apply Array.ext';rw[<-Array.foldl_toList];simpa using hsp
  obtain⟨hm,r,hr1,hr2⟩:=Ym hu hp ps hT (cells:=(splice cells.toList o (a.eval x).cells.toList).toArray) (by simpa using Vb o hs hv) hr;refine⟨hm,r, ?_,hr2⟩;simp only[OQ,Instr.fill,hpl];rw[if_neg (by simp[hgl];omega),hz];exact hr1
def aqp(hA:At base U M0 w0 w m G){tm:kU}{a:Act}(hT:Z9 G.μ m (Gh U w G) tm a){T:TypeId}{ps:Array (Nat×Operand)}{v:V}{l l':Log}(h:(ajg P T tm ps.toList).run m l=some (v,m',l')):
  Iz base U M0 w0 w m G P (Instr.build T (ps.map λx=>(x.1,a.eval x.2))) v m':=by
 simp only[ajg] at h;replace h:=aj h;obtain⟨_,m1,l1,h1,h⟩:=h;obtain⟨hok,rfl,rfl⟩:=dN h1;replace h:=aj h;obtain⟨z,m1,l1,h1,h⟩:=h;obtain⟨hz,rfl,rfl⟩:=iw h1;replace h:=aj h;obtain⟨cs,m2,l2,h2,h⟩:=h;simp only[run_pure,iq,jM] at h;obtain⟨rfl,rfl,_⟩:=h;obtain⟨i,zv,hi,hzv,hs⟩:=RU (m:=m1) (μ:=G.μ) (h:=Gh U w G) hz;unfold akv at hok;cases hu:P.underlying T with
 |none=>simp[hu] at hok
 |some d=>
  rw[hu] at hok;cases d with
  |struct fs=>simp only at hok;obtain⟨places,hpl,hpg⟩:=acs fs.toList hok;obtain⟨hm,r,hr1,hr2⟩:=Ym (place:=(places.toArray[·]?)) hu (λj f hj=>by simpa using hpg j f (by simpa using hj)) ps.toList hT hs h2;subst hm;refine Iz.same hA (g:=.agg r) ?_ (by simp only[aK];exact⟨r,rfl,hr2⟩);refine run_build w T _ r ?_;unfold Program.built;simp only[hi,hu,hzv,hpl];simpa[Array.toList_map] using hr1
  |_=>simp at hok
def WJ{e:TypeId}{size:Nat}(hsz:mQ P e=size){tm:kU}{a:Act}
  {μ:Nat->Value} {h:View}:∀(ps:List (Nat×Operand)) {m:Mem} (_:Z9 μ m h tm a) {cs:List V} {cells:Array Value} (_:bW μ m h cs cells.toList) {out:List V} {m':Mem} {l l':Log}
  (_:(tC P e tm ps cs).run m l=some (out,m',l')),m'=m∧∃r,Instr.fill (λi=>some (i * size,size)) cells (ps.map λx=>(x.1,a.eval x.2))=some r∧bW μ m h out r.toList
 |[],m,hT,cs,cells,hs,out,m',l,l',hr=>by simp only[tC,run_pure,iq,jM] at hr;obtain⟨rfl,rfl,_⟩:=hr;exact⟨rfl,cells,rfl,hs⟩
 |(i,x)::ps,m,hT,cs,cells,hs,out,m',l,l',hr=>by
  simp only[tC] at hr;replace hr:=aj hr;obtain⟨_,m2,l2,h2,hr⟩:=hr;obtain⟨hlen,rfl,rfl⟩:=dN h2;replace hr:=aj hr;obtain⟨_,m2,l2,h2,hr⟩:=hr;obtain⟨hone,rfl,rfl⟩:=dN h2;replace hr:=aj hr;obtain⟨_,m2,l2,h2,hr⟩:=hr;obtain⟨hfit,rfl,rfl⟩:=dN h2;have hlen:=yD hlen;have hfit:=Nat.le_of_ble_eq_true hfit;rw[hsz] at hlen hfit hr;obtain⟨hv,hv1⟩:=cells_ok hone (Ut hT e x);have hgl:(a.eval x).cells.size=size:=by rw[<-hlen,<-kV hv,Array.length_toList]
  have hcl:cells.size=cs.length:=by rw[<-kV hs,Array.length_toList]
  have hsp:=Vg (i * size) (a.eval x).cells.toList 0 cells (by simp;omega);have hz:(a.eval x).cells.zipIdx.foldl (λcs (c,j)=>cs.setIfInBounds (i * size+j) c) cells=(splice cells.toList (i * size) (a.eval x).cells.toList).toArray:=by apply Array.ext';rw[<-Array.foldl_toList];simpa using hsp
  obtain⟨hm,r,hr1,hr2⟩:=WJ hsz ps hT (cells:=(splice cells.toList (i * size) (a.eval x).cells.toList).toArray) (by simpa using Vb (i * size) hs hv) hr;refine⟨hm,r, ?_,hr2⟩;simp only[OQ,Instr.fill];rw[if_neg (by simp[hgl];omega),hz];exact hr1
def aqr(hA:At base U M0 w0 w m G){tm:kU}{a:Act}(hT:Z9 G.μ m (Gh U w G) tm a){T:TypeId}{ps:Array (Nat×Operand)}{v:V}{l l':Log}(h:(ajh P T tm ps.toList).run m l=some (v,m',l')):
  Iz base U M0 w0 w m G P (Instr.build T (ps.map λx=>(x.1,a.eval x.2))) v m':=by
 unfold ajh at h;split at h
 ·rename_i n e har;unfold arT at har;cases hu:P.underlying T with
  |none=>simp[hu] at har
  |some d=>rw[hu] at har;cases d<;>simp at har;obtain⟨rfl,rfl⟩:=har;simp only[aoj] at h;replace h:=aj h;obtain⟨_,m1,l1,h1,h⟩:=h;obtain⟨hok,rfl,rfl⟩:=dN h1;replace h:=aj h;obtain⟨z,m1,l1,h1,h⟩:=h;obtain⟨hz,rfl,rfl⟩:=iw h1;replace h:=aj h;obtain⟨cs,m2,l2,h2,h⟩:=h;simp only[run_pure,iq,jM] at h;obtain⟨rfl,rfl,_⟩:=h;obtain⟨i,zv,hi,hzv,hs⟩:=RU (m:=m1) (μ:=G.μ) (h:=Gh U w G) hz;obtain⟨d',hd'⟩:=CS hok;obtain⟨inf,Hr⟩:=yt hd';obtain⟨hm,r,hr1,hr2⟩:=WJ (JK Hr) ps.toList hT hs h2;subst hm;refine Iz.same hA (g:=.agg r) ?_ (by simp only[aK];exact⟨r,rfl,hr2⟩);refine run_build w T _ r ?_;unfold Program.built;simp only[hi,hu,hzv,Hr];simpa[Array.toList_map] using hr1
 ·exact aqp hA hT h
def Yn{e:TypeId}{tm:kU}{a:Act}:∀(ps:List (Nat×Operand)) {m:Mem} {G:GS} {k:Nat} (_:Gf base U w m G) (_:G.out=[]) (_:Z9 G.μ m (Gh U w G) tm a) {rows:List Row} {m':Mem} {l l':Log}
  (_:(wM P e tm k ps).run m l=some (rows,m',l')),∃G' N,OM base U w m G m' G' N∧fO (dG w) (Gh U w G') (mQ P e) rows ((ps.map λx=>a.eval x.2).flatMap λv=>v.cells.toList) N∧rows.length=ps.length∧
   (∀v∈ps.map (λx=>a.eval x.2),v.cells.size=mQ P e)∧ps.map (λx=>(x.1,a.eval x.2))=((ps.map λx=>a.eval x.2).zipIdx k).map λx=>(x.2,x.1)
 |[],m,G,k,hg,ho,hT,rows,m',l,l',h=>by simp only[wM,run_pure,iq,jM] at h;obtain⟨rfl,rfl,_⟩:=h;exact⟨G,[],OM.same hg,by simp[fO],rfl,by simp,by simp⟩
 |(i,x)::ps,m,G,k,hg,ho,hT,rows,m',l,l',h=>by
  simp only[wM] at h;replace h:=aj h;obtain⟨_,m1,l1,h1,h⟩:=h;obtain⟨hik,rfl,rfl⟩:=dN h1;have hik:=yD hik;subst hik;replace h:=aj h;obtain⟨_,m1,l1,h1,h⟩:=h;obtain⟨hlen,rfl,rfl⟩:=dN h1;have hlen:=yD hlen;replace h:=aj h;obtain⟨row,m2,l2,h2,h⟩:=h;replace h:=aj h;obtain⟨rows',m3,l3,h3,h⟩:=h;simp only[run_pure,iq,jM] at h;obtain⟨rfl,rfl,_⟩:=h;have hev:=Ut (P:=P) hT e x;have hcells:∃gs,bW G.μ m1 (Gh U w G) (ev P tm e x).cells gs∧(a.eval x).cells.toList=gs:=by
   generalize ev P tm e x=v at hev h2 hlen;cases v with
   |agg cs=>simp only[aK] at hev;obtain⟨arr,he,hq⟩:=hev;exact⟨arr.toList,hq,by rw[he];rfl⟩
   |d y=>have h1:(a.eval x).oneCell'=true:=oP (v:=.d y) rfl hev;exact⟨[a.eval x],by simp only[V.cells,bW];exact⟨_,[],rfl,hev,rfl⟩,by rw[cells_one h1]⟩
   |nil s=>have h1:(a.eval x).oneCell'=true:=oP (v:=.nil s) rfl hev;exact⟨[a.eval x],by simp only[V.cells,bW];exact⟨_,[],rfl,hev,rfl⟩,by rw[cells_one h1]⟩
   |own r ver=>have h1:(a.eval x).oneCell'=true:=oP (v:=.own r ver) rfl hev;exact⟨[a.eval x],by simp only[V.cells,bW];exact⟨_,[],rfl,hev,rfl⟩,by rw[cells_one h1]⟩
   |ptr r o=>have h1:(a.eval x).oneCell'=true:=oP (v:=.ptr r o) rfl hev;exact⟨[a.eval x],by simp only[V.cells,bW];exact⟨_,[],rfl,hev,rfl⟩,by rw[cells_one h1]⟩
   |wW r v i o=>have h1:(a.eval x).oneCell'=true:=oP (v:=.wW r v i o) rfl hev;exact⟨[a.eval x],by simp only[V.cells,bW];exact⟨_,[],rfl,hev,rfl⟩,by rw[cells_one h1]⟩
   |qO r o=>have h1:(a.eval x).oneCell'=true:=oP (v:=.qO r o) rfl hev;exact⟨[a.eval x],by simp only[V.cells,bW];exact⟨_,[],rfl,hev,rfl⟩,by rw[cells_one h1]⟩
   |zo q=>have h1:(a.eval x).oneCell'=true:=oP (v:=.zo q) rfl hev;exact⟨[a.eval x],by simp only[V.cells,bW];exact⟨_,[],rfl,hev,rfl⟩,by rw[cells_one h1]⟩
   |clo f p q=>have h1:(a.eval x).oneCell'=true:=oP (v:=.clo f p q) rfl hev;exact⟨[a.eval x],by simp only[V.cells,bW];exact⟨_,[],rfl,hev,rfl⟩,by rw[cells_one h1]⟩
   |BU vs=>simp only[V.cells,OU,toD] at h2;replace h2:=aj h2;obtain⟨_,_,_,h4,_⟩:=h2;exact(ak h4).elim
   |undef=>simp only[V.cells,OU,toD] at h2;replace h2:=aj h2;obtain⟨_,_,_,h4,_⟩:=h2;exact(ak h4).elim
  obtain⟨gs,hgs,hge⟩:=hcells;obtain⟨G1,N1,t1,q1,hrl⟩:=Uo hg hgs ho h2;have hT1:Z9 G1.μ m2 (Gh U w G1) tm a:=λt v hv=>⟨(hT t v hv).1,t1.le.aK (hT t v hv).2⟩
  obtain⟨G2,N2,t2,q2,hl2,hs2,hz2⟩:=Yn ps t1.ok (t1.out.trans ho) hT1 h3;have hgl:gs.length=mQ P e:=by rw[kV hgs,hlen]
  refine⟨G2,N1++N2,t1.trans t2, ?_,by simp[hl2], ?_, ?_⟩
  ·simp only[fO,OQ,List.flatMap_cons,hge];refine⟨by rw[hrl,hlen],N1,N2,rfl,O4 (by rw[hrl,<-kV hgs];simp) (Va t2.le.view q1), ?_⟩;rw[List.drop_append_of_le_length au,List.drop_eq_nil_of_le au];exact q2
  ·intro v hv;simp only[OQ,List.mem_cons] at hv;rcases hv with rfl|hv
   ·rw[<-Array.length_toList,hge,hgl]
   ·exact hs2 v hv
  ·simp only[OQ,List.zipIdx_cons,hz2]
def aeR(hA:At base U M0 w0 w m G){tm:kU}{a:Act}(hT:Z9 G.μ m (Gh U w G) tm a){t:TypeId}{n k:Nat}{ps:Array (Nat×Operand)}{v:V}{l l':Log}(h:(Tq P k t n tm ps.toList).run m l=some (v,m',l')):
  Iz base U M0 w0 w m G P (Instr.buildSlice t n (ps.map λx=>(x.1,a.eval x.2))) v m':=by
 simp only[Tq] at h;replace h:=aj h;obtain⟨e,m1,l1,h1,h⟩:=h;obtain⟨he,rfl,rfl⟩:=iw h1;replace h:=aj h;obtain⟨_,m1,l1,h1,h⟩:=h;obtain⟨hs1,rfl,rfl⟩:=dN h1;replace h:=aj h;obtain⟨_,m1,l1,h1,h⟩:=h;obtain⟨hn,rfl,rfl⟩:=dN h1;replace h:=aj h;obtain⟨_,m1,l1,h1,h⟩:=h;obtain⟨hb,rfl,rfl⟩:=dN h1;replace h:=aj h;obtain⟨z,m1,l1,h1,h⟩:=h;obtain⟨hz,rfl,rfl⟩:=iw h1;obtain⟨inf,zv,hi,hzv,_⟩:=RU (m:=m1) (μ:=G.μ) (h:=Gh U w G) hz;replace h:=aj h;obtain⟨rows,m2,l2,h2,h⟩:=h;replace h:=aj h;obtain⟨_,m3,l3,h3,h⟩:=h;simp only[run_pure,iq,jM] at h;obtain⟨rfl,rfl,_⟩:=h;have hs1:=Nat.le_of_ble_eq_true hs1;have hn:=yD hn;have hb:=Nat.le_of_ble_eq_true hb;have hu:=RS he;obtain⟨G1,N1,t1,q1,hrl,hsz,aUK⟩:=Yn (e:=e) ps.toList hA.ok hA.out hT h2;obtain⟨hE1,ho1,aeP⟩:=hA.took t1;have hsz':mQ P e=inf.size:=JK hi;have hrn:rows.length=n:=by rw[hrl,hn]
 by_cases hn0:n=0
 ·subst hn0;have hps:ps.toList=[]:=List.eq_nil_of_length_eq_zero hn;have hrows:rows=[]:=List.eq_nil_of_length_eq_zero hrn;subst hrows;have hpa:ps=#[]:=by cases ps;simp_all
  subst hpa;simp only[fO] at q1;obtain⟨G2,hnx,QN⟩:=aeQ (w1:=w) (cap:=0) (arr:=#[]) (T:=e) t1.ok ho1 aeP rfl (Keep.refl _ _) (k:=k) (fl:=tV P e) (s:=mQ P e) (rows:=[]) (by rw[hE1,q1];simp[fO]) (by simp) (by simp) h3;refine⟨_,_,G2, ?_,Nx.after t1.le hnx,QN⟩;simp[Instr.buildSlice,run_underlying hu,sizeOf,typeInfo,hi,Instr.fill,newRow,Array.range_zero']
 ·have hpos:¬n * inf.size=0:=by rw[<-hsz'];intro e0;rcases Nat.mul_eq_zero.1 e0 with e1|e1<;>omega
  have hsmall:¬n * inf.size>2 ^ 24:=by rw[<-hsz'];omega
  have asc:=Go.Great.fill_whole (s:=mQ P e) au (ps.toList.map λx=>a.eval x.2) ((Array.range (n * inf.size)).map (zv.cells[· % zv.cells.size]!)) hsz (by simp[<-hsz'];rw[<-hn];simp);rw[<-aUK] at asc;have hrun:=run_buildSlice w t e n (ps.map λx=>(x.1,a.eval x.2)) _ inf zv hu hi hzv hsmall hpos (by rw[<-hsz'];rw[<-hsz'] at asc;simpa[Array.toList_map] using asc);have hcl:((ps.toList.map λx=>a.eval x.2).flatMap λv=>v.cells.toList).length=n * mQ P e:=by
   have:∀(l:List Value),(∀v∈l,v.cells.size=mQ P e)->(l.flatMap λv=>v.cells.toList).length=l.length * mQ P e:=by
    intro l;induction l with
    |nil=>simp
    |cons v l ih=>intro hv;simp only[List.flatMap_cons,qx,mV,Nat.add_mul,Array.length_toList];rw[ih (λu hu=>hv u (by simp[hu])),hv v (by simp)];omega
   rw[this _ hsz];simp[<-hn]
  obtain⟨G2,hnx,QN⟩:=aeQ (w1:=w) (cap:=n) (arr:=((ps.toList.map λx=>a.eval x.2).flatMap λv=>v.cells.toList).toArray) (T:=e) t1.ok ho1 aeP rfl (Keep.refl _ _) (k:=k) (fl:=tV P e) (s:=mQ P e) (rows:=rows) (by rw[hE1];simpa using q1) au (by simp[hcl]) h3;rw[hrn] at QN;exact⟨_,_,G2,hrun,Nx.after t1.le hnx,QN⟩
end
end Go.Vm
namespace Go.Vm
open Go
section
variable {base:Nat} {U:Nat->Prop} {M0:List Nat} {w0 w w':World} {m m':Mem} {G G':GS} {P:Program}
def acu{h:View}{b:Nat}:∀(r:Row) (o:Nat),xR h r b o->∃cs:List Value,cs.length=r.length∧(∀j v,cs[j]? =some v->h b (o+j)=some v)∧iU h r cs
 |[],_,_=>⟨[],rfl,by simp,trivial⟩
 |x::r,o,q=>by
  simp only[xR] at q;obtain⟨⟨v,h1,h2⟩,h3⟩:=q;obtain⟨cs,e1,e2,e3⟩:=acu r (o+1) h3;refine⟨v::cs,by simp[e1], ?_,⟨v,cs,rfl,h2,e3⟩⟩;intro j u hj;cases j with
  |zero=>simp at hj;subst hj;exact h1
  |succ j=>
   have:=e2 j u (by simpa using hj)
   rwa [show o+(j+1)=o+1+j from by omega]
def Vh{h:View}{s b:Nat}:∀(rs:List Row) (o:Nat),nV h s rs b o->∃cs:List Value,cs.length=rs.length * s∧(∀j v,cs[j]? =some v->h b (o+j)=some v)∧gu h s rs cs
 |[],_,_=>⟨[],by simp,by simp,trivial⟩
 |r::rs,o,q=>by
  simp only[nV] at q;obtain⟨h1,h2,h3⟩:=q;obtain⟨cs1,a1,a2,a3⟩:=acu r o h2;obtain⟨cs2,b1,b2,b3⟩:=Vh rs (o+s) h3;have hl:cs1.length=s:=by rw[a1,h1]
  refine⟨cs1++cs2,by simp[hl,b1,Nat.add_mul];omega, ?_,h1, ?_, ?_⟩
  ·intro j u hj
   by_cases hlt:j<s
   ·rw[List.getElem?_append_left au] at hj;exact a2 j u hj
   ·rw[List.getElem?_append_right au,hl] at hj;have:=b2 (j - s) u hj
    rwa [show o+j=o+s+(j - s) from by omega]
  ·refine MR ?_ a3;rw[List.take_append_of_le_length au]
  ·rw[List.drop_append_of_le_length au,List.drop_eq_nil_of_le au];exact b3
def acv{h:View}:∀{r:Row} {cs:List Value},iU h r cs->∀u∈cs.take r.length,u.oneCell'=true
 |[],_,_=>by simp
 |x::r,cs,⟨v,cs',e,h1,h2⟩=>by
  subst e;intro u hu;simp only[mV,List.take_succ_cons,List.mem_cons] at hu;rcases hu with rfl|hu
  ·exact TY h1
  ·exact acv h2 u hu
def Vj{h:View}{s:Nat}:∀{rs:List Row} {cs:List Value},gu h s rs cs->∀u∈cs.take (rs.length * s),u.oneCell'=true
 |[],_,_=>by simp
 |r::rs,cs,⟨h1,h2,h3⟩=>by
  intro u hu;have hs:(r::rs).length * s=s+rs.length * s:=by simp[Nat.add_mul];omega
  rw[hs,List.take_add] at hu;simp only[List.mem_append] at hu;rcases hu with hu|hu
  ·exact acv h2 u (by rw[h1];exact hu)
  ·exact Vj h3 u hu
def ag7{H:Heap}{h:View}{x:D}{g:Value}{N:List Nat}(q:ow H h x g N):g.oneCell'=true:=by
 cases x with
 |sl o s rows=>
  cases o with
  |false=>simp only[ow] at q;exact TY q.2
  |true=>simp only[ow] at q;rcases q with⟨_,rfl,_⟩|⟨b,cap,cs,t,N',rfl,_⟩<;>rfl
 |_=>simp only[ow] at q;rw[q.1];rfl
def ahX{H:Heap}{h:View}:∀{r:Row} {cs:List Value} {N:List Nat},iO H h r cs N->∀u∈cs.take r.length,u.oneCell'=true
 |[],_,_,_=>by simp
 |x::r,cs,N,q=>by
  obtain⟨v,cs',N1,N2,rfl,rfl,h1,h2⟩:=LG q;intro u hu;simp only[mV,List.take_succ_cons,List.mem_cons] at hu;rcases hu with rfl|hu
  ·exact ag7 h1
  ·exact ahX h2 u hu
def aeS{H:Heap}{h:View}{s:Nat}:∀{rs:List Row} {cs:List Value} {N:List Nat},fO H h s rs cs N->∀u∈cs.take (rs.length * s),u.oneCell'=true
 |[],_,_,_=>by simp
 |r::rs,cs,N,q=>by
  simp only[fO] at q;obtain⟨h1,N1,N2,rfl,h2,h3⟩:=q;intro u hu;have hs:(r::rs).length * s=s+rs.length * s:=by simp[Nat.add_mul];omega
  rw[hs,List.take_add] at hu;simp only[List.mem_append] at hu;rcases hu with hu|hu
  ·exact ahX h2 u (by rw[h1];exact hu)
  ·exact aeS h3 u hu
def Fg(H:Heap)(h:View)(fl:Bool)(s:Nat)(rows:List Row)(cs:List Value)(N:List Nat):Prop:=match fl with
 |true=>gu h s rows cs∧N=[]
 |false=>fO H h s rows cs N
def O5{H:Heap}{h:View}{fl:Bool}{s:Nat}{rows:List Row}{cs cs':List Value}{N:List Nat}(e:cs.take (rows.length * s)=cs'.take (rows.length * s))(q:Fg H h fl s rows cs N):Fg H h fl s rows cs' N:=by
 cases fl with
 |true=>exact⟨uO e q.1,q.2⟩
 |false=>exact TA e q
def aac{H:Heap}{h:View}{fl:Bool}{s:Nat}{a b:List Row}{cs:List Value}{N N':List Nat}(q:Fg H h fl s a cs N)(q':Fg H h fl s b (cs.drop (a.length * s)) N'):Fg H h fl s (a++b) cs (N++N'):=by
 cases fl with
 |true=>exact⟨zx.2 ⟨q.1,q'.1⟩,by rw[q.2,q'.2];rfl⟩
 |false=>exact Bh.2 ⟨N,N',rfl,q,q'⟩
def LM{H H':Heap}{h h':View}(hl:h.le h'){fl:Bool}{s:Nat}{rows:List Row}{cs:List Value}{N:List Nat}(hb:∀b,b∈N->H' b=H b)(q:Fg H h fl s rows cs N):Fg H' h' fl s rows cs N:=by
 cases fl with
 |true=>exact⟨oO hl s rows _ q.1,q.2⟩
 |false=>exact zH hl s rows _ N hb q
mutual
def ase{H:Heap}{h:View}:∀(x:D) (v:Value),ro h x.fz v->ow H h x.fz v []
 | .int _ _,_,q=>by simpa[D.fz,ow,ro] using q
 | .bool _,_,q=>by simpa[D.fz,ow,ro] using q
 | .str _,_,q=>by simpa[D.fz,ow,ro] using q
 | .RI,_,q=>by simpa[D.fz,ow,ro] using q
 | .sl _ s rows,v,q=>by simp only[D.fz,ow,true_and] at q⊢;exact q
end
def acw{H:Heap}{h:View}:∀(r:Row) (cs:List Value),iU h (qg r) cs->iO H h (qg r) cs []
 |[],_,_=>by simp[qg,iO]
 |x::r,cs,q=>by simp only[qg,iU] at q;obtain⟨v,cs',e,h1,h2⟩:=q;simp only[qg,iO];exact⟨v,cs',[],[],e,rfl,ase x v h1,acw r cs' h2⟩
def aad{H:Heap}{h:View}{s:Nat}:∀(rs:List Row) (cs:List Value),gu h s (aQ rs) cs->fO H h s (aQ rs) cs []
 |[],_,_=>by simp[aQ,fO]
 |r::rs,cs,q=>by simp only[aQ,gu] at q;obtain⟨h1,h2,h3⟩:=q;simp only[aQ,fO];exact⟨h1,[],[],rfl,acw r cs h2,aad rs _ h3⟩
def aeT{h:View}:∀{r:Row} {cs:List Value},iU h r cs->iU h (qg r) cs
 |[],_,_=>by simp[qg,iU]
 |x::r,cs,⟨v,cs',e,h1,h2⟩=>by simp only[qg,iU];exact⟨v,cs',e,ar1 x v h1,aeT h2⟩
def acy{h:View}{s:Nat}:∀{rs:List Row} {cs:List Value},gu h s rs cs->gu h s (aQ rs) cs
 |[],_,_=>by simp[aQ,gu]
 |r::rs,cs,⟨h1,h2,h3⟩=>by simp only[aQ,gu];exact⟨by rw[U9];exact h1,aeT h2,acy h3⟩
structure Tail(P:Program)(base:Nat)(U:Nat->Prop)(w:World)(m:Mem)(G:GS)(size:Nat)(fl:Bool)(gy:Value)(ys:List Row)(m':Mem):Prop where
 ex:∃G' news,Gf base U w m' G'∧WA m G m' G'∧G'.out=G.out∧G'.μ=G.μ∧Src P size w gy ys.length news∧Fg (dG w) (Gh U w G') fl size ys news G'.E∧∀r c,get r m=some c->get r m'=some c∨get r m'=some .dead
def awK(hA:At base U M0 w0 w m G){e:TypeId}{y:V}{gy:Value}(hy:aK G.μ m (Gh U w G) y gy)(hsz:1<=mQ P e){ys:List Row}{l l':Log}(h:(tail P e y).run m l=some (ys,m',l')):
  Tail P base U w m G (mQ P e) (tV P e) gy ys m':=by
 have plain:∀(ys:List Row) (news:List Value),Src P (mQ P e) w gy ys.length news->(tV P e=true->gu (Gh U w G) (mQ P e) ys news)->(tV P e=false->fO (dG w) (Gh U w G) (mQ P e) ys news [])->
   Tail P base U w m G (mQ P e) (tV P e) gy ys m:=by
  intro ys news h1 h2 h3;refine⟨G,news,hA.ok,WA.refl _ _,rfl,rfl,h1, ?_,λr c h=> .inl h⟩;rw[hA.E];cases hf:tV P e with
  |true=>exact⟨h2 hf,rfl⟩
  |false=>exact h3 hf
 have seen:∀(rows:List Row) (o:Bool),ro (Gh U w G) (.sl o (mQ P e) rows) gy->Tail P base U w m G (mQ P e) (tV P e) gy (vw (tV P e) rows) m:=by
  intro rows o hq;simp only[ro] at hq;obtain⟨a,cap,rfl,hcap,hne⟩:=hq;have hvl:(vw (tV P e) rows).length=rows.length:=by unfold vw;cases tV P e<;>simp[TW]
  by_cases hr:rows=[]
  ·subst hr;have hv:vw (tV P e) []=[]:=by unfold vw;cases tV P e<;>simp[aQ]
   rw[hv];exact plain [] [] (Src.slice (by simp) (by simp) (by simp)) (λ_=>trivial) (λ_=>by simp[fO])
  ·obtain⟨b,o',rfl,hrows⟩:=hne hr;obtain⟨cs,c1,c2,c3⟩:=Vh rows o' hrows;refine plain _ cs ?_ (λhf=> ?_) (λhf=> ?_)
   ·rw[hvl];refine Src.slice c1 (λu hu=> ?_) (λ_=>⟨b,o',rfl,λj v hj=>uN _ _ _ _ _ _ (c2 j v hj)⟩);exact Vj c3 u (by rw[<-c1,List.take_length];exact hu)
   ·rw[hf];exact c3
   ·rw[hf];simp only[vw,bG];exact aad rows cs (acy c3)
 cases y with
 |d x=>
  cases x with
  |str s=>simp only[Vm.tail] at h;replace h:=aj h;obtain⟨_,m1,l1,h1,h⟩:=h;obtain⟨hs,rfl,rfl⟩:=dN h1;simp only[run_pure,iq,jM] at h;obtain⟨rfl,rfl,_⟩:=h;have hs:=yD hs;simp only[aK,ro] at hy;subst hy;have ayW:=ar7 (h:=Gh U w G) s _ rfl;refine plain _ _ (by rw[hs];simpa using Src.string) (λ_=>by rw[hs];exact ayW) (λ_=> ?_);rw[hs];refine WE 1 _ _ ?_ ayW;simp[ay,byteRow,D.flat]
  |sl o s rows=>simp only[Vm.tail] at h;replace h:=aj h;obtain⟨_,m1,l1,h1,h⟩:=h;obtain⟨hs,rfl,rfl⟩:=dN h1;simp only[run_pure,iq,jM] at h;obtain⟨rfl,rfl,_⟩:=h;have hs:=yD hs;subst hs;simp only[aK] at hy;exact seen rows o hy
  |int _ _=>exact(ak h).elim
  |bool _=>exact(ak h).elim
  |RI=>exact(ak h).elim
 |nil s=>simp only[Vm.tail,run_pure,iq,jM] at h;obtain⟨rfl,rfl,_⟩:=h;simp only[aK] at hy;subst hy;exact plain [] [] (Src.slice (by simp) (by simp) (by simp)) (λ_=>trivial) (λ_=>by simp[fO])
 |own r ver=>
  simp only[Vm.tail] at h;replace h:=aj h;obtain⟨c,m1,l1,h1,h⟩:=h;rw[wP] at h1;cases h1;cases hc:get r m with
  |none=>rw[hc] at h;exact(ak h).elim
  |some c=>
   rw[hc] at h;cases c with
   |box _ _=>exact(ak h).elim
   |dead=>exact(ak h).elim
   |Iy _ _ _=>exact(ak h).elim
   |oN _ _=>exact(ak h).elim
   |arr fz fl jf s rows=>
    simp only at h;replace h:=aj h;obtain⟨_,m1,l1,h1,h⟩:=h;obtain⟨hb,rfl,rfl⟩:=dN h1;have hb:=yD hb;subst hb;replace h:=aj h;obtain⟨_,m1,l1,h1,h⟩:=h;obtain⟨hs,rfl,rfl⟩:=dN h1;have hs:=yD hs;subst hs;simp only[aK,hc] at hy;have hy:=hy.2.2 trivial;subst hy;have hro:r ∉ G.out:=by rw[hA.out];simp
    have hcell:=hA.ok.cell r _ hc hro;cases hf:tV P e with
    |true=>
     rw[hf] at h;simp only at h;replace h:=aj h;obtain⟨_,m1,l1,h1,h⟩:=h;obtain⟨hff,rfl,rfl⟩:=dN h1;simp only[run_pure,iq,jM] at h;obtain⟨rfl,rfl,_⟩:=h;cases fz with
     |true=>have:=seen rows true hcell.1;rw[hf] at this;simpa[vw] using this
     |false=>
      have hfl:fl=true:=by simpa using hff
      subst hfl;rw[hf] at plain;simp only[nX] at hcell;rcases hcell with⟨rfl,hμ,_⟩|⟨b,cap,cs,T,N',h1,h2,h3,h4,h5,_⟩
      ·rw[hμ] at plain⊢;exact plain [] [] (Src.slice (by simp) (by simp) (by simp)) (λ_=>trivial) (λe=>by cases e)
      ·rw[h1] at plain⊢;have hle:rows.length * mQ P e<=cs.toList.length:=by
        have hcl:cs.toList.length=cap * mQ P e:=by simpa using h4
        rw[hcl];exact Nat.mul_le_mul_right _ h2
       refine plain rows (cs.toList.take (rows.length * mQ P e)) (Src.slice (by rw[Ui];omega) (λu hu=>Vj h5.1 u hu) (λ_=>⟨b,0,rfl,λj v hj=> ?_⟩)) (λ_=>uO (by rw[List.take_take,Nat.min_self]) h5.1) (λe=>by cases e);rw[List.getElem?_take] at hj;split at hj
       ·have:=full_cell (w:=w) h3 (0+j);rw[Nat.zero_add] at this⊢;rw[hj] at this;exact this
       ·cases hj
    |false=>
     rw[hf] at h;simp only at h;replace h:=aj h;obtain⟨_,m1,l1,h1,h⟩:=h;obtain⟨hff,rfl,rfl⟩:=dN h1;have hfl:fl=false:=by simpa using hff
     subst hfl;cases fz with
     |true=>simp only[run_pure,iq,jM] at h;obtain⟨rfl,rfl,_⟩:=h;have:=seen rows true hcell.1;rw[hf] at this;simpa[vw] using this
     |false=>
      simp only at h;replace h:=aj h;obtain⟨_,m1,l1,h1,h⟩:=h;rw[FZ] at h1;cases h1;simp only[run_pure,iq,jM] at h;obtain⟨rfl,rfl,_⟩:=h;obtain⟨k1,k2,k3⟩:=hA.ok.kill hc hro;have hold:∀j c,get j m1=some c->get j (put r .dead m1)=some c∨get j (put r .dead m1)=some .dead:=by
       intro j c hj
       by_cases e:j=r
       ·subst e;right;exact jo _ _ _
       ·left;rw[lW e];exact hj
      rcases k3 with⟨rfl,hμ,hF⟩|⟨b,cap,cs,T,N',h1,h2,h3,h4,h5,hF⟩
      ·refine⟨_,[],k1,k2,rfl,rfl, ?_, ?_,hold⟩
       ·rw[hμ];exact Src.slice (by simp) (by simp) (by simp)
       ·rw[hA.E,hF];simp[Fg,fO]
      ·have hnd:(b::N').Nodup:=by rw[<-hF];exact hA.ok.nd r
       obtain⟨q1,q2⟩:=k1.less N' (List.nodup_cons.1 hnd).2 (λx hx=>by rw[hA.E,hF];simp[hx]);have hle:rows.length * mQ P e<=cs.toList.length:=by
        have hcl:cs.toList.length=cap * mQ P e:=by simpa using h4
        rw[hcl];exact Nat.mul_le_mul_right _ h2
       refine⟨_,cs.toList.take (rows.length * mQ P e),q1,k2.trans q2,rfl,rfl, ?_, ?_,hold⟩
       ·rw[h1];refine Src.slice (by rw[Ui];omega) (λu hu=>aeS h5 u hu) (λ_=>⟨b,0,rfl,λj v hj=> ?_⟩);rw[List.getElem?_take] at hj;split at hj
        ·have:=full_cell (w:=w) h3 (0+j);rw[Nat.zero_add] at this⊢;rw[hj] at this;exact this
        ·cases hj
       ·exact TA (by rw[List.take_take,Nat.min_self]) (akz (k2.view.trans' q2.view) h5)
 |ptr _ _=>exact(ak h).elim
 |wW _ _ _ _=>exact(ak h).elim
 |qO _ _=>exact(ak h).elim
 |zo _=>exact(ak h).elim
 |clo _ _ _=>exact(ak h).elim
 |agg _=>exact(ak h).elim
 |BU _=>exact(ak h).elim
 |undef=>exact(ak h).elim
end
end Go.Vm
namespace Go.Vm
open Go
section
variable {base:Nat} {U:Nat->Prop} {M0:List Nat} {w0 w w':World} {m m':Mem} {G G' G1:GS} {P:Program}
def l9{b:Bool}{l:Log}{x:Unit}{l':Log}(h:(ck b).run m l=some (x,m',l')):b=true∧m=m'∧l=l':=by obtain⟨h1,h2,h3⟩:=dN h;exact⟨h1,h2.symm,h3.symm⟩
def Uu{a:Nat}(h:Nat.ble a Wj=true):a<=140737488355328:=Nat.le_of_ble_eq_true h
def abh{M M':List Nat}(h:Keep M w w')(hs:∀b,b∈M->b∈M'):Keep M' w w':=⟨h.os,h.tape,h.output,h.size,λb hb hn=>h.block b hb (λhx=>hn (hs b hx))⟩
def Vk{w1:World}{o:Obj}(h:Keep [] w w1):Keep [] w (w1.alloc o):=h.trans (Vf (M:=[])) (by simp)
def acz(hg:Gf base U w m G)(ho:G.out=[])(hfr:Fr M0 w0 w G){w1:World}(hw1:w1.heap=w.heap)(hk1:Keep [] w w1){k:Nat}{fl:Bool}{s cap:Nat}{rows:List Row}{arr:Array Value}{T:TypeId}(hq:Fg (dG w) (Gh U w G) fl s rows arr.toList G.E)
  (hcap:rows.length<=cap) (hsz:arr.size=cap * s) {u:Unit} {l l':Log} (h:(new k (.arr false fl 0 s rows)).run m l=some (u,m',l')):
  ∃G',Nx base U M0 w0 w m G (w1.alloc (.cells arr T)) m' G'∧aK G'.μ m' (Gh U (w1.alloc (.cells arr T)) G') (.own k 0) (.slice (some ⟨w.heap.size,0,none⟩) rows.length cap):=by
 obtain⟨hn,rfl⟩:=Z7 h;have hsize:(w1.alloc (.cells arr T)).heap.size=w.heap.size+1:=by rw[World.size_alloc,hw1]
 have hkeep:Keep [] w (w1.alloc (.cells arr T)):=Vk hk1;have hnE:w.heap.size ∉ G.E:=λhE=>by have:=(hg.lt _ (.inl hE)).1;omega
 refine⟨_,hg.fresh ho hfr (gv:=.slice (some ⟨w.heap.size,0,none⟩) rows.length cap) (N:=w.heap.size::G.E) hn hkeep (List.nodup_cons.2 ⟨hnE,hg.ndE⟩) ?_ ?_, ?_⟩
 ·intro b hb;simp only[List.mem_cons] at hb;rcases hb with rfl|hb
  ·exact⟨.inr (Nat.le_refl _),by rw[hsize];omega⟩
  ·exact⟨.inl hb,by rw[hsize];have:=(hg.lt b (.inl hb)).1;omega⟩
 ·intro h' hv hml awJ;simp only[nX,MO];refine .inr ⟨w.heap.size,cap,arr,T,G.E,rfl,hcap,RV hw1,hsz, ?_,rfl⟩;have:=LM (H':=dG (w1.alloc (.cells arr T))) hv (λb hb=>hkeep.block b (hg.lt b (.inl hb)).1 (by simp)) hq;cases fl with
  |true=>exact this
  |false=>exact this
 ·simp[aK,jo,Un]
def Vl{z:Value}{n s:Nat}(h:z.cells.size=s):(Builtin.zeroCells z.cells n).size=n * s:=by simp[Builtin.zeroCells,h]
def awL(t1:Gf base U w m G1){m0:Mem}(t2:WA m0 G m G1)(ho1:G1.out=[])(aeP:Fr M0 w0 w G1){r ver s:Nat}{rows ys:List Row}(hc:get r m=some (.Iy ver s rows)){t ty ry e:TypeId}{inf:TypeInfo}{zv gy:Value}{news:List Value}
  (hu:P.underlying t=some (.slice e)) (hty':(∃e',P.underlying ty=some (.slice e'))∨P.underlying ty=some .string) (hi:P.info? e=some inf) (hzv:inf.zero=some zv) (hsz:s=inf.size) (hzs:zv.cells.size=s) (hsrc:Src P inf.size w gy ys.length news)
  (hrows:Fg (dG w) (Gh U w G1) true s ys news G1.E) (hb1:(rows.length+ys.length) * inf.bytes<=140737488355328) (hb2:rows.length+ys.length<=140737488355328) (hcell:ag5 (dG w) (Gh U w G1) s rows (G1.μ r) (G1.F r)):
  Iz base U M0 w0 w m0 G P (Builtin.append_ #[t,ty] ry #[G1.μ r,gy]) (.own r (ver+1)) (put r (.Iy (ver+1) s (rows++ys)) m):=by
 have hnl:news.length=ys.length * s:=by rw[hsz];exact hsrc.n
 have ajr:¬ver=ver+1:=au;have hE:G1.E=[]:=hrows.2;have hsn:gu (Gh U w G1) s ys news:=hrows.1;have fin:∀(w':World) (g:Value) (N:List Nat),Keep (G1.F r) w w'->N.Nodup->(∀b,b∈N->(b∈G1.F r∨b∈G1.E∨w.heap.size<=b)∧b<w'.heap.size)->
   (∀h':View,(Gh U w G1).le h'->ag5 (dG w') h' s (rows++ys) g N)->(Builtin.append_ #[t,ty] ry #[G1.μ r,gy]).run P w=.ok g w'->Un g->
   Iz base U M0 w0 w m0 G P (Builtin.append_ #[t,ty] ry #[G1.μ r,gy]) (.own r (ver+1)) (put r (.Iy (ver+1) s (rows++ys)) m):=by
  intro w' g N hk hN hNs QN hrun hone;refine⟨g,w',_,hrun,Nx.after t2 (t1.rewrite ho1 aeP (μ':=upM G1.μ r g) (N:=N) hc hk hN hNs (λk hk=>O1 g hk) ⟨au,λe=>absurd e ajr⟩ (λh' hv hml _=> ?_)), ?_⟩
  ·simp only[nX,MO];exact QN h' hv
  ·simp[aK,jo,hone]
 have fresh:∀(olds:List Value) (cap:Nat),olds.length=rows.length * s->(∀h':View,(Gh U w G1).le h'->gu h' s rows olds)->rows.length+ys.length<=cap->
   (Builtin.append_ #[t,ty] ry #[G1.μ r,gy]).run P w=.ok (.slice (some ⟨w.heap.size,0,none⟩) (rows.length+ys.length) cap) (w.drew.alloc (.cells ((olds++news).toArray++Builtin.zeroCells zv.cells (cap - (rows.length+ys.length))) e))->
   Iz base U M0 w0 w m0 G P (Builtin.append_ #[t,ty] ry #[G1.μ r,gy]) (.own r (ver+1)) (put r (.Iy (ver+1) s (rows++ys)) m):=by
  intro olds cap hol hos hcap hrun;have hkeep:Keep [] w (w.drew.alloc (.cells ((olds++news).toArray++Builtin.zeroCells zv.cells (cap - (rows.length+ys.length))) e)):=Vk XR;have hsize:(w.drew.alloc (.cells ((olds++news).toArray++Builtin.zeroCells zv.cells (cap - (rows.length+ys.length))) e)).heap.size=w.heap.size+1:=by rw[World.size_alloc];rfl
  refine fin _ _ [w.heap.size] (abh hkeep (by simp)) (by simp) ?_ ?_ hrun ⟨_,_,_,rfl⟩
  ·intro k hk;simp only[List.mem_singleton] at hk;subst hk;exact⟨.inr (.inr (Nat.le_refl _)),by rw[hsize];omega⟩
  ·intro h' hv;refine .inr ⟨w.heap.size,0,cap,_,e,by simp,by simpa using hcap,RV rfl, ?_, ?_,rfl⟩
   ·rw[Array.size_append,Vl hzs];simp only[List.size_toArray,qx,hol,hnl];rw[<-Nat.add_mul,<-Nat.add_mul,Nat.zero_add];exact Nat.mul_le_mul_right _ au
   ·rw[List.drop_zero,Array.toList_append];refine zx.2 ⟨uO (cs:=olds) ?_ (hos h' hv),uO (cs:=news) ?_ (oO hv _ _ _ hsn)⟩
    ·simp only[BO];rw[List.take_append_of_le_length au]
    ·simp only[BO];rw[<-hol,List.drop_left,List.take_append_of_le_length au]
 rcases hcell with⟨rfl,hμ,hF⟩|⟨b,o,cap,cs,T,k1,k2,k3,k4,k5,k6⟩
 ·by_cases hy0:ys=[]
  ·subst hy0;refine fin w (.slice none 0 0) [] (Keep.refl _ _) (by simp) (by simp) (λh' hv=> .inl ⟨rfl,rfl,rfl⟩) ?_ ⟨_,_,_,rfl⟩;rw[hμ];exact QM hu hty' hi hsrc
  ·have hm:ys.length≠0:=by simpa using hy0
   obtain⟨cap,hcap,hrun⟩:=QL (w:=w) (ty:=ry) hu hty' hi hzv hsrc hm (by simpa using hb2) (by simpa using hb1);refine fresh [] cap (by simp) (λ_ _=>trivial) (by simpa using hcap) ?_;rw[hμ];simpa using hrun
 ·have hbF:b∈G1.F r:=by rw[k6];simp
  have hcl:o+cap * s<=cs.toList.length:=by simpa using k4
  have hrl:rows.length * s<=cap * s:=Nat.mul_le_mul_right _ k2
  by_cases hroom:rows.length+ys.length<=cap
  ·have hrun:=Y0 (ty:=ry) (o:=o) hu hty' hi hsrc k3 hroom (by rw[<-hsz];exact k4);rw[<-hsz] at hrun;have hh:=setRow_heap w b cs (splice cs.toList (o+rows.length * s) news).toArray T (0,0) k3;have hfit:o+rows.length * s+news.length<=cs.toList.length:=by have:=Nat.mul_le_mul_right s hroom;rw[Nat.add_mul] at this;rw[hnl];omega
   have hsz2:(w.setRow b (splice cs.toList (o+rows.length * s) news).toArray).heap.size=w.heap.size:=by simp[World.setRow]
   refine fin _ (.slice (some ⟨b,o,none⟩) (rows.length+ys.length) cap) [b] (Tz hbF) (by simp) ?_ ?_ (by rw[k1];exact hrun) ⟨_,_,_,rfl⟩
   ·intro k hk;simp only[List.mem_singleton] at hk;subst hk;rw[hsz2];exact⟨.inl hbF,(t1.lt _ (.inr ⟨r,hbF⟩)).1⟩
   ·intro h' hv;refine .inr ⟨b,o,cap,_,T,by simp,by simpa using hroom,hh, ?_, ?_,rfl⟩
    ·have:=FP (l:=cs.toList) (xs:=news) (o:=o+rows.length * s) hfit;simp only[List.size_toArray];rw[this];exact hcl
    ·have e1:(splice cs.toList (o+rows.length * s) news).drop o=(cs.toList.drop o).take (rows.length * s)++(news++cs.toList.drop (o+rows.length * s+news.length)):=by simp only[splice,BO];rw[List.drop_append_of_le_length (by rw[Ui];omega),List.drop_take];congr 2;omega
     have l1:((cs.toList.drop o).take (rows.length * s)).length=rows.length * s:=by rw[Ui,List.length_drop];omega
     rw[e1];refine zx.2 ⟨uO (cs:=cs.toList.drop o) ?_ (oO hv _ _ _ k5),uO (cs:=news) ?_ (oO hv _ _ _ hsn)⟩
     ·rw[List.take_append_of_le_length au,List.take_take,Nat.min_self]
     ·rw[List.drop_append_of_le_length au,List.drop_eq_nil_of_le au,List.nil_append,List.take_append_of_le_length au]
  ·have hlt:cap<rows.length+ys.length:=au;obtain⟨cap',hcap',hrun⟩:=Y1 (ty:=ry) (o:=o) (olds:=(cs.toList.drop o).take (rows.length * s)) hu hty' hi hzv hsrc (by rw[Ui,List.length_drop,<-hsz];omega) (λj u hj=>by
    rw[List.getElem?_take] at hj;split at hj
    ·rw[List.getElem?_drop] at hj;have:=full_cell (w:=w) k3 (o+j);rw[hj] at this;exact this
    ·cases hj) hlt hb2 hb1
   refine fresh ((cs.toList.drop o).take (rows.length * s)) cap' (by rw[Ui,List.length_drop];omega) (λh' hv=>uO (cs:=cs.toList.drop o) (by rw[List.take_take,Nat.min_self]) (oO hv _ _ _ k5)) hcap' ?_;rw[k1];exact hrun
def aoq(hA:At base U M0 w0 w m G){dst:Nat}{t ty ry:TypeId}{x y:V}{gx gy:Value}(hx:aK G.μ m (Gh U w G) x gx)(hy:aK G.μ m (Gh U w G) y gy){v:V}{l l':Log}(h:(aje P dst t ty x y).run m l=some (v,m',l')):
  Iz base U M0 w0 w m G P (Builtin.append_ #[t,ty] ry #[gx,gy]) v m':=by
 simp only[aje] at h;replace h:=aj h;obtain⟨e,m1,l1,h1,h⟩:=h;obtain⟨he,rfl,rfl⟩:=iw h1;replace h:=aj h;obtain⟨_,m1,l1,h1,h⟩:=h;obtain⟨hs1,rfl,rfl⟩:=dN h1;replace h:=aj h;obtain⟨_,m1,l1,h1,h⟩:=h;obtain⟨hty,rfl,rfl⟩:=dN h1;replace h:=aj h;obtain⟨z,m1,l1,h1,h⟩:=h;obtain⟨hz,rfl,rfl⟩:=iw h1;replace h:=aj h;obtain⟨_,m1,l1,h1,h⟩:=h;obtain⟨hzs,rfl,rfl⟩:=dN h1;replace h:=aj h;obtain⟨ys,m2,l2,h2,h⟩:=h;have hs1:=Nat.le_of_ble_eq_true hs1;have hu:=RS he;have hty':(∃e',P.underlying ty=some (.slice e'))∨P.underlying ty=some .string:=by
  cases hq:P.underlying ty with
  |none=>simp[hq] at hty
  |some d=>rw[hq] at hty;cases d<;>simp at hty<;>simp
 obtain⟨G1,news,t1,t2,t3,t4,hsrc,hrows,hold⟩:=(awK hA hy hs1 h2).ex;have aeP:Fr M0 w0 w G1:=hA.fr.less t2.ex;have ho1:G1.out=[]:=t3.trans hA.out;obtain⟨inf,zv,hi,hzv,aEc⟩:=RU (m:=m1) (μ:=G.μ) (h:=Gh U w G) hz;have hzs:zv.cells.size=mQ P e:=by rw[<-yD hzs,<-kV aEc,Array.length_toList]
 have hsz:mQ P e=inf.size:=JK hi;have hby:Wn P e=inf.bytes:=by simp[Wn,hi]
 rw[hsz] at hsrc;cases x with
 |nil s0=>
  simp only at h;replace h:=aj h;obtain⟨_,m3,l3,h3,h⟩:=h;obtain⟨hb1,rfl,rfl⟩:=dN h3;replace h:=aj h;obtain⟨_,m3,l3,h3,h⟩:=h;obtain⟨hb2,rfl,rfl⟩:=dN h3;replace h:=aj h;obtain⟨_,m3,l3,h3,h⟩:=h;simp only[run_pure,iq,jM] at h;obtain⟨rfl,rfl,_⟩:=h;simp only[aK] at hx;subst hx;have hb1:=Uu hb1;have hb2:=Uu hb2;rw[hby] at hb1
  by_cases hy0:ys=[]
  ·subst hy0;obtain⟨hn,rfl⟩:=Z7 h3;refine⟨_,w,_,QM hu hty' hi hsrc,Nx.after t2 (t1.fresh ho1 aeP (gv:=.slice none 0 0) (N:=[]) hn (Keep.refl _ _) (by simp) (by simp) (λh' hv hml _=> ?_)), ?_⟩
   ·simp only[nX,MO];exact .inl ⟨rfl,rfl,rfl⟩
   ·simp[aK,jo,Un]
  ·have hm:ys.length≠0:=by simpa using hy0
   obtain⟨cap,hcap,hrun⟩:=QL (w:=w) (ty:=ry) hu hty' hi hzv hsrc hm hb2 hb1;obtain⟨G2,hnx,QN⟩:=acz (w1:=w.drew) (cap:=cap) (arr:=news.toArray++Builtin.zeroCells zv.cells (cap - ys.length)) (T:=e) t1 ho1 aeP rfl XR (k:=dst) (fl:=tV P e) (s:=mQ P e) (rows:=ys)
    (O5 (by
     have hnl:news.length=ys.length * mQ P e:=by rw[hsz];exact hsrc.n
     simp only[Array.toList_append];rw[List.take_append_of_le_length au]) hrows) hcap (by
     rw[Array.size_append,Vl hzs,hsz];have hnl:news.toArray.size=ys.length * inf.size:=by simpa using hsrc.n
     rw[hnl,<-Nat.add_mul];congr 1;omega) h3
   exact⟨_,_,G2,hrun,Nx.after t2 hnx,QN⟩
 |own r ver=>
  simp only at h;replace h:=aj h;obtain⟨c,m3,l3,h3,h⟩:=h;rw[wP] at h3;cases h3;replace hx:=t2.aK hx;cases hc:get r m2 with
  |none=>rw[hc] at h;exact(ak h).elim
  |some c=>
  rw[hc] at h;cases c with
  |box _ _=>exact(ak h).elim
  |dead=>exact(ak h).elim
  |oN _ _=>exact(ak h).elim
  |Iy jf s rows=>simp only at h;replace h:=aj h;obtain⟨_,m4,l4,h4,h⟩:=h;obtain⟨hb,rfl,rfl⟩:=l9 h4;have hb:=yD hb;subst hb;replace h:=aj h;obtain⟨_,m4,l4,h4,h⟩:=h;obtain⟨hs,rfl,rfl⟩:=l9 h4;have hs:=yD hs;subst hs;replace h:=aj h;obtain⟨_,m4,l4,h4,h⟩:=h;obtain⟨hfl,rfl,rfl⟩:=l9 h4;rw[hfl] at hrows;replace h:=aj h;obtain⟨_,m4,l4,h4,h⟩:=h;obtain⟨hb1,rfl,rfl⟩:=l9 h4;have hb1:=Uu hb1;rw[hby] at hb1;replace h:=aj h;obtain⟨_,m4,l4,h4,h⟩:=h;obtain⟨hb2,rfl,rfl⟩:=l9 h4;have hb2:=Uu hb2;replace h:=aj h;obtain⟨_,m4,l4,h4,h⟩:=h;rw[FZ] at h4;cases h4;simp only[run_pure,iq,jM] at h;obtain⟨rfl,rfl,_⟩:=h;simp only[aK,hc] at hx;have hx:=hx.2.2 trivial;subst hx;have hcell:=t1.cell r _ hc (by rw[ho1];simp);exact awL t1 t2 ho1 aeP hc hu hty' hi hzv hsz hzs hsrc hrows hb1 hb2 hcell
  |arr fz fl jf s rows=>
  cases fz with
  |true=>exact(ak h).elim
  |false=>
  simp only at h;replace h:=aj h;obtain⟨_,m4,l4,h4,h⟩:=h;obtain⟨hb,rfl,rfl⟩:=l9 h4;have hb:=yD hb;subst hb;replace h:=aj h;obtain⟨_,m4,l4,h4,h⟩:=h;obtain⟨hs,rfl,rfl⟩:=l9 h4;have hs:=yD hs;subst hs;replace h:=aj h;obtain⟨_,m4,l4,h4,h⟩:=h;obtain⟨hfl,rfl,rfl⟩:=l9 h4;have hfl:fl=tV P e:=by cases fl<;>cases hq:tV P e<;>simp_all
  rw[<-hfl] at hrows;replace h:=aj h;obtain⟨_,m4,l4,h4,h⟩:=h;obtain⟨hb1,rfl,rfl⟩:=l9 h4;have hb1:=Uu hb1;rw[hby] at hb1;replace h:=aj h;obtain⟨_,m4,l4,h4,h⟩:=h;obtain⟨hb2,rfl,rfl⟩:=l9 h4;have hb2:=Uu hb2;replace h:=aj h;obtain⟨_,m4,l4,h4,h⟩:=h;rw[FZ] at h4;cases h4;simp only[run_pure,iq,jM] at h;obtain⟨rfl,rfl,_⟩:=h;simp only[aK,hc] at hx;have hx:=hx.2.2 trivial;subst hx;have hcell:=t1.cell r _ hc (by rw[ho1];simp);have hnl:news.length=ys.length * mQ P e:=by rw[hsz];exact hsrc.n
  have ajr:¬ver=ver+1:=au;have hEd:∀b,b∈G1.F r->b ∉ G1.E:=λb=>t1.djE r b
  have fin:∀(w':World) (g:Value) (N:List Nat),Keep (G1.F r) w w'->N.Nodup->(∀b,b∈N->(b∈G1.F r∨b∈G1.E∨w.heap.size<=b)∧b<w'.heap.size)->
    (∀h':View,(Gh U w G1).le h'->V6 (dG w') h' fl (mQ P e) (rows++ys) g N)->(Builtin.append_ #[t,ty] ry #[G1.μ r,gy]).run P w=.ok g w'->Un g->
    Iz base U M0 w0 w m1 G P (Builtin.append_ #[t,ty] ry #[G1.μ r,gy]) (.own r (ver+1)) (put r (.arr false fl (ver+1) (mQ P e) (rows++ys)) m2):=by
   intro w' g N hk hN hNs QN hrun hone;refine⟨g,w',_,hrun,Nx.after t2 (t1.rewrite ho1 aeP (μ':=upM G1.μ r g) (N:=N) hc hk hN hNs (λk hk=>O1 g hk) ⟨au,rfl,λe=>absurd e ajr⟩ (λh' hv hml _=> ?_)), ?_⟩
   ·simp only[nX,MO];exact QN h' hv
   ·simp[aK,jo,hone]
  simp only[nX] at hcell;rcases hcell with⟨rfl,hμ,hF⟩|⟨b,cap,cs,T,N',k1,k2,k3,k4,k5,k6⟩
  ·
   by_cases hy0:ys=[]
   ·subst hy0;refine fin w (.slice none 0 0) [] (Keep.refl _ _) (by simp) (by simp) (λh' hv=> .inl ⟨rfl,rfl,rfl⟩) ?_ ⟨_,_,_,rfl⟩;rw[hμ];exact QM hu hty' hi hsrc
   ·have hm:ys.length≠0:=by simpa using hy0
    obtain⟨cap,hcap,hrun⟩:=QL (w:=w) (ty:=ry) hu hty' hi hzv hsrc hm (by simpa using hb2) (by simpa using hb1);have hkeep:Keep [] w (w.drew.alloc (.cells (news.toArray++Builtin.zeroCells zv.cells (cap - ys.length)) e)):=Vk XR;have hsize:(w.drew.alloc (.cells (news.toArray++Builtin.zeroCells zv.cells (cap - ys.length)) e)).heap.size=w.heap.size+1:=by rw[World.size_alloc];rfl
    have hnE:w.heap.size ∉ G1.E:=λhE=>by have:=(t1.lt _ (.inl hE)).1;omega
    refine fin _ _ (w.heap.size::G1.E) (abh hkeep (by simp)) (List.nodup_cons.2 ⟨hnE,t1.ndE⟩) ?_ ?_ (by rw[hμ];exact hrun) ⟨_,_,_,rfl⟩
    ·intro k hk;simp only[List.mem_cons] at hk;rcases hk with rfl|hk
     ·exact⟨.inr (.inr (Nat.le_refl _)),by rw[hsize];omega⟩
     ·exact⟨.inr (.inl hk),by rw[hsize];have:=(t1.lt k (.inl hk)).1;omega⟩
    ·intro h' hv;refine .inr ⟨w.heap.size,cap,_,e,G1.E,rfl,by simpa using hcap,RV rfl, ?_, ?_,rfl⟩
     ·rw[Array.size_append,Vl hzs,hsz];have hnl:news.toArray.size=ys.length * inf.size:=by simpa using hsrc.n
      rw[hnl,<-Nat.add_mul];congr 1;omega
     ·have h1:=LM hv (λb hb=>hkeep.block b (t1.lt b (.inl hb)).1 (by simp)) hrows;have h2:=O5 (cs':=(news.toArray++Builtin.zeroCells zv.cells (cap - ys.length)).toList) (by simp only[Array.toList_append];rw[List.take_append_of_le_length au]) h1;rw[List.nil_append];cases fl with
      |true=>exact h2
      |false=>exact h2
  ·have hbF:b∈G1.F r:=by rw[k6];simp
   have akD:=t1.nd r;rw[k6] at akD;have aor:∀k,k∈N'->k∈G1.F r:=λk hk=>by rw[k6];simp[hk]
   have ayX:(N'++G1.E).Nodup:=List.nodup_append.2 ⟨(List.nodup_cons.1 akD).2,t1.ndE,λa ha c hc e=>hEd a (aor a ha) (e ▸ hc)⟩;have hcl:cs.toList.length=cap * mQ P e:=by simpa using k4
   have hrl:rows.length * mQ P e<=cs.toList.length:=by rw[hcl];exact Nat.mul_le_mul_right _ k2
   have k5':Fg (dG w) (Gh U w G1) fl (mQ P e) rows cs.toList N':=by
    cases fl with
    |true=>exact k5
    |false=>exact k5
   by_cases hroom:rows.length+ys.length<=cap
   ·
    have hrun:=run_append_fits (ty:=ry) hu hty' hi hsrc k3 hroom (by rw[k4,hsz]);rw[<-hsz] at hrun;have hh:=setRow_heap w b cs (splice cs.toList (rows.length * mQ P e) news).toArray T (0,0) k3;have hfit:rows.length * mQ P e+news.length<=cs.toList.length:=by rw[hnl,hcl,<-Nat.add_mul];exact Nat.mul_le_mul_right _ hroom
    have hoth:∀k,k≠b->dG (w.setRow b (splice cs.toList (rows.length * mQ P e) news).toArray) k=dG w k:=λk hk=>setRow_other w b k _ hk
    have hsz2:(w.setRow b (splice cs.toList (rows.length * mQ P e) news).toArray).heap.size=w.heap.size:=by simp[World.setRow]
    have hbN:b ∉ N'++G1.E:=by
     intro hx;simp only[List.mem_append] at hx;rcases hx with hx|hx
     ·exact(List.nodup_cons.1 akD).1 hx
     ·exact hEd b hbF hx
    refine fin _ (.slice (some ⟨b,0,none⟩) (rows.length+ys.length) cap) (b::(N'++G1.E)) (Tz hbF) (List.nodup_cons.2 ⟨hbN,ayX⟩) ?_ ?_ (by rw[k1];exact hrun) ⟨_,_,_,rfl⟩
    ·intro k hk;rw[hsz2];simp only[List.mem_cons,List.mem_append] at hk;rcases hk with rfl|hk|hk
     ·exact⟨.inl hbF,(t1.lt _ (.inr ⟨r,hbF⟩)).1⟩
     ·exact⟨.inl (aor k hk),(t1.lt _ (.inr ⟨r,aor k hk⟩)).1⟩
     ·exact⟨.inr (.inl hk),(t1.lt _ (.inl hk)).1⟩
    ·intro h' hv;refine .inr ⟨b,cap,_,T,N'++G1.E,by simp,by simpa using hroom,hh, ?_, ?_,rfl⟩
     ·have:=FP (l:=cs.toList) (xs:=news) (o:=rows.length * mQ P e) hfit;simp only[List.size_toArray];rw[this,hcl]
     ·have h1:=LM (H':=dG (w.setRow b (splice cs.toList (rows.length * mQ P e) news).toArray)) hv (λk hk=>hoth k (λe=>hbN (by rw[<-e];simp[hk]))) k5';have h2:=LM (H':=dG (w.setRow b (splice cs.toList (rows.length * mQ P e) news).toArray)) hv (λk hk=>hoth k (λe=>hbN (by rw[<-e];simp[hk]))) hrows;have h3:=aac (O5 (cs':=splice cs.toList (rows.length * mQ P e) news) (by
       simp only[splice,BO];rw[List.take_append_of_le_length (by simp;omega),List.take_take,Nat.min_self]) h1) (O5 (cs':=(splice cs.toList (rows.length * mQ P e) news).drop (rows.length * mQ P e)) (by
       simp only[splice,BO];rw[List.drop_append_of_le_length (by simp;omega)];have:(cs.toList.take (rows.length * mQ P e)).drop (rows.length * mQ P e)=[]:=by simp
       rw[this,List.nil_append,List.take_append_of_le_length au]) h2)
      cases fl with
      |true=>simpa[Fg] using h3
      |false=>simpa[Fg] using h3
   ·
    have hlt:cap<rows.length+ys.length:=au;obtain⟨cap',hcap',hrun⟩:=ada (ty:=ry) (olds:=cs.toList.take (rows.length * mQ P e)) hu hty' hi hzv hsrc (by rw[Ui,<-hsz];omega) (λj u hj=>by
     rw[List.getElem?_take] at hj;split at hj
     ·have:=full_cell (w:=w) k3 (0+j);rw[Nat.zero_add] at this⊢;rw[hj] at this;exact this
     ·cases hj) hlt hb2 hb1
    have hkeep:Keep [] w (w.drew.alloc (.cells ((cs.toList.take (rows.length * mQ P e)++news).toArray++Builtin.zeroCells zv.cells (cap' - (rows.length+ys.length))) e)):=Vk XR;have hsize:(w.drew.alloc (.cells ((cs.toList.take (rows.length * mQ P e)++news).toArray++Builtin.zeroCells zv.cells (cap' - (rows.length+ys.length))) e)).heap.size=w.heap.size+1:=by rw[World.size_alloc];rfl
    have aUL:w.heap.size ∉ N'++G1.E:=λhE=>by
     simp only[List.mem_append] at hE;rcases hE with hE|hE
     ·have:=(t1.lt _ (.inr ⟨r,aor _ hE⟩)).1;omega
     ·have:=(t1.lt _ (.inl hE)).1;omega
    refine fin _ (.slice (some ⟨w.heap.size,0,none⟩) (rows.length+ys.length) cap') (w.heap.size::(N'++G1.E)) (abh hkeep (by simp)) (List.nodup_cons.2 ⟨aUL,ayX⟩) ?_ ?_ (by rw[k1];exact hrun) ⟨_,_,_,rfl⟩
    ·intro k hk;rw[hsize];simp only[List.mem_cons,List.mem_append] at hk;rcases hk with rfl|hk|hk
     ·exact⟨.inr (.inr (Nat.le_refl _)),au⟩
     ·exact⟨.inl (aor k hk),by have:=(t1.lt _ (.inr ⟨r,aor k hk⟩)).1;omega⟩
     ·exact⟨.inr (.inl hk),by have:=(t1.lt _ (.inl hk)).1;omega⟩
    ·intro h' hv;refine .inr ⟨w.heap.size,cap',_,e,N'++G1.E,by simp,by simpa using hcap',RV rfl, ?_, ?_,rfl⟩
     ·rw[Array.size_append,Vl hzs];simp only[List.size_toArray,qx,Ui,hnl];rw[Nat.min_eq_left hrl,<-Nat.add_mul,<-Nat.add_mul];congr 1;omega
     ·have h1:=LM hv (λb hb=>hkeep.block b (t1.lt b (.inr ⟨r,aor b hb⟩)).1 (by simp)) k5';have h2:=LM hv (λb hb=>hkeep.block b (t1.lt b (.inl hb)).1 (by simp)) hrows;have l1:(cs.toList.take (rows.length * mQ P e)).length=rows.length * mQ P e:=by rw[Ui];omega
      have h3:=aac (O5 (cs':=((cs.toList.take (rows.length * mQ P e)++news).toArray++Builtin.zeroCells zv.cells (cap' - (rows.length+ys.length))).toList) (by
       simp only[Array.toList_append,BO];rw[List.take_append_of_le_length au,List.take_take,Nat.min_self]) h1) (O5 (cs':=(((cs.toList.take (rows.length * mQ P e)++news).toArray++Builtin.zeroCells zv.cells (cap' - (rows.length+ys.length))).toList).drop (rows.length * mQ P e)) (by
       simp only[Array.toList_append,BO];rw[List.drop_append_of_le_length au,List.drop_eq_nil_of_le au,List.nil_append,List.take_append_of_le_length au]) h2)
      cases fl with
      |true=>exact h3
      |false=>exact h3
 |d _=>exact(ak h).elim
 |ptr _ _=>exact(ak h).elim
 |wW _ _ _ _=>exact(ak h).elim
 |qO _ _=>exact(ak h).elim
 |zo _=>exact(ak h).elim
 |clo _ _ _=>exact(ak h).elim
 |agg _=>exact(ak h).elim
 |BU _=>exact(ak h).elim
 |undef=>exact(ak h).elim
end
end Go.Vm
namespace Go.Vm
open Go
section
variable {base:Nat} {U:Nat->Prop} {M0:List Nat} {w0 w w':World} {m m':Mem} {G G':GS} {P:Program}
def ag8(hA:At base U M0 w0 w m G){T f:Nat}{a:V}{ga:Value}(ha:aK G.μ m (Gh U w G) a ga){v:V}{l l':Log}(h:(YM P T a f).run m l=some (v,m',l')):
  Iz base U M0 w0 w m G P (Instr.fieldAt T ga f) v m':=by
 simp only[YM] at h;replace h:=aj h;obtain⟨⟨o,n,t⟩,m1,l1,h1,h⟩:=h;obtain⟨hf,rfl,rfl⟩:=iw h1;simp only at h;replace h:=aj h;obtain⟨_,m2,l2,h2,h⟩:=h;obtain⟨hn,rfl,rfl⟩:=dN h2;have hn:=Nat.le_of_ble_eq_true hn;cases a with
 |ptr r off=>
  simp only[run_pure,iq,jM] at h;obtain⟨rfl,rfl,_⟩:=h;simp only[aK] at ha;obtain⟨⟨b,o',rfl⟩,ha⟩:=ha;refine Iz.same hA (WH hf hn) ?_;simp only[aK];refine⟨⟨_,_,rfl⟩, ?_⟩;split at ha
  ·obtain⟨b1,hμ,e⟩:=ha;simp only[Value.pointer.injEq,iq,Addr.mk.injEq] at e;obtain⟨rfl,rfl,_⟩:=e;exact⟨_,hμ,rfl⟩
  ·obtain⟨b1,hμ,e⟩:=ha;simp only[Value.pointer.injEq,iq,Addr.mk.injEq] at e;obtain⟨rfl,rfl,_⟩:=e;exact⟨_,hμ,rfl⟩
  ·trivial
  ·exact ha
 |zo _=>exact(ak h).elim
 |qO row off=>simp only[run_pure,iq,jM] at h;obtain⟨rfl,rfl,_⟩:=h;simp only[aK] at ha;obtain⟨b,o',rfl,hrow⟩:=ha;refine Iz.same hA (WH hf hn) ?_;simp only[aK];exact⟨b,o',by rw[Nat.add_assoc],hrow⟩
 |wW r ver i off=>
  simp only[run_pure,iq,jM] at h;obtain⟨rfl,rfl,_⟩:=h;simp only[aK] at ha;obtain⟨⟨b,o',rfl⟩,ha⟩:=ha;refine Iz.same hA (WH hf hn) ?_;simp only[aK];refine⟨⟨_,_,rfl⟩, ?_⟩;split at ha
  ·refine⟨ha.1,λe=> ?_⟩;obtain⟨b1,n1,cap,hμ,e1⟩:=ha.2 e;simp only[Value.pointer.injEq,iq,Addr.mk.injEq] at e1;obtain⟨rfl,rfl,_⟩:=e1;exact⟨_,n1,cap,hμ,by rw[Nat.add_assoc]⟩
  ·trivial
  ·refine⟨ha.1,λe=> ?_⟩;obtain⟨b1,o1,n1,cap,hμ,e1⟩:=ha.2 e;simp only[Value.pointer.injEq,iq,Addr.mk.injEq] at e1;obtain⟨rfl,rfl,_⟩:=e1;exact⟨_,o1,n1,cap,hμ,by simp only[Nat.add_assoc]⟩
  ·exact ha
 |d _=>exact(ak h).elim
 |nil _=>exact(ak h).elim
 |own _ _=>exact(ak h).elim
 |clo _ _ _=>exact(ak h).elim
 |agg _=>exact(ak h).elim
 |BU _=>exact(ak h).elim
 |undef=>exact(ak h).elim
def aqs(hA:At base U M0 w0 w m G){T f:Nat}{a:V}{ga:Value}(ha:aK G.μ m (Gh U w G) a ga){v:V}{l l':Log}(h:(aof P T a f).run m l=some (v,m',l')):
  Iz base U M0 w0 w m G P (Instr.field T ga f) v m':=by
 simp only[aof] at h;replace h:=aj h;obtain⟨⟨o,n,t⟩,m1,l1,h1,h⟩:=h;obtain⟨hf,rfl,rfl⟩:=iw h1;simp only at h;cases a with
 |agg cs=>
  simp only at h;replace h:=aj h;obtain⟨_,m2,l2,h2,h⟩:=h;obtain⟨hfit,rfl,rfl⟩:=dN h2;replace h:=aj h;obtain⟨_,m2,l2,h2,h⟩:=h;obtain⟨hok,rfl,rfl⟩:=dN h2;obtain⟨hv,rfl,rfl⟩:=iw h;simp only[aK] at ha;obtain⟨arr,rfl,hs⟩:=ha;have hfit:=Nat.le_of_ble_eq_true hfit;have hp:=aeL o n hs;have hal:arr.size=cs.length:=by simpa using kV hs
  obtain⟨g,hg⟩:=ahS hv hp;refine Iz.same hA (g:=g) ?_ (LH hv hp hg);unfold U7 at hf;cases hu:P.underlying T with
  |none=>simp[hu] at hf
  |some d=>
   rw[hu] at hf;cases d with
   |struct fs=>
    simp only at hf;cases hfd:fs[f]? with
    |none=>simp[hfd] at hf
    |some fd=>
     simp only[hfd,iq,jM] at hf;obtain⟨rfl,rfl,rfl⟩:=hf;obtain⟨d',hd'⟩:=CS hok;obtain⟨i,hi⟩:=yt hd';unfold Instr.field;simp only[Sem.run_bind,run_underlying hu,Result.andThen_ok,hfd];unfold Go.part;simp only[Sem.run_bind,asAgg,Sem.run_pure,Result.andThen_ok,Us hd'];unfold valOf at hg;cases hag:JI P fd.type with
     |true=>
      simp only[hag,if_true] at hg;subst hg;rw[JK hi];have hex:arr.extract fd.offset (fd.offset+i.size)=(List.take i.size (List.drop fd.offset arr.toList)).toArray:=by apply Array.ext';simp[Array.toList_extract,List.extract_eq_take_drop]
      simp[sizeOf,typeInfo,hi,hex]
     |false=>
      simp only[hag,Bool.false_eq_true,if_false] at hg;have h0:arr[fd.offset]? =some g:=by
       have:(List.take (mQ P fd.type) (List.drop fd.offset arr.toList))[0]? =some g:=by rw[hg];rfl
       rw[List.getElem?_take] at this;split at this
       ·rw[List.getElem?_drop,Nat.add_zero] at this;simpa using this
       ·cases this
      simp[h0]
   |_=>simp at hf
 |d _=>exact(ak h).elim
 |nil _=>exact(ak h).elim
 |own _ _=>exact(ak h).elim
 |ptr _ _=>exact(ak h).elim
 |wW _ _ _ _=>exact(ak h).elim
 |qO _ _=>exact(ak h).elim
 |zo _=>exact(ak h).elim
 |clo _ _ _=>exact(ak h).elim
 |BU _=>exact(ak h).elim
 |undef=>exact(ak h).elim
def aae{α:Type}{l:List α}{i:Int}{x:α}(h:idx l i=some x):0<=i∧i.toNat<l.length∧l[i.toNat]? =some x:=by
 unfold idx at h
 by_cases h0:0<=i
 ·simp only[h0,decide_true,aS] at h;exact⟨h0,(MG.1 h).1,h⟩
 ·simp[h0] at h
def ag9(hA:At base U M0 w0 w m G){t:TypeId}{x i:V}{gx gi:Value}(hx:aK G.μ m (Gh U w G) x gx)(hi:aK G.μ m (Gh U w G) i gi){v:V}{l l':Log}(h:(YN P t x i).run m l=some (v,m',l')):
  Iz base U M0 w0 w m G P (Instr.indexAt t gx gi) v m':=by
 simp only[YN] at h;replace h:=aj h;obtain⟨e,m1,l1,h1,h⟩:=h;obtain⟨he,rfl,rfl⟩:=iw h1;cases i with
 |d xi=>
  cases xi with
  |int k n=>
   simp only at h;simp only[aK,ro] at hi;subst hi;have seen:∀(rows:List Row) (o:Bool),ro (Gh U w G) (.sl o (mQ P e) rows) gx->∀row,idx rows n=some row->1<=mQ P e∨True->(∃inf,P.info? e=some inf)->Iz base U M0 w0 w m1 G P (Instr.indexAt t gx (.int k n)) (.qO row 0) m1:=by intro rows o hq row hrow _ Hr;obtain⟨inf,Hr⟩:=Hr;obtain⟨h0,hlt,hget⟩:=aae hrow;simp only[ro] at hq;obtain⟨a,cap,rfl,hcap,hne⟩:=hq;obtain⟨b,o',rfl,hrows⟩:=hne (by intro e;subst e;simp at hlt);obtain⟨hl,hr⟩:=LK hrows hget;refine Iz.same hA (run_indexAt he Hr h0 au) ?_;simp only[aK];rw[<-JK Hr];exact⟨b,o'+n.toNat * mQ P e,rfl,hr⟩
   cases x with
   |d y=>
    cases y with
    |sl o s rows=>simp only at h;replace h:=aj h;obtain⟨_,m2,l2,h2,h⟩:=h;obtain⟨hs,rfl,rfl⟩:=dN h2;replace h:=aj h;obtain⟨_,m2,l2,h2,h⟩:=h;obtain⟨hok,rfl,rfl⟩:=dN h2;replace h:=aj h;obtain⟨row,m2,l2,h2,h⟩:=h;obtain⟨hrow,rfl,rfl⟩:=iw h2;simp only[run_pure,iq,jM] at h;obtain⟨rfl,rfl,_⟩:=h;have hs:=yD hs;subst hs;simp only[aK] at hx;obtain⟨d',hd'⟩:=CS hok;exact seen rows o hx row hrow (.inr trivial) (yt hd')
    |int _ _=>exact(ak h).elim
    |bool _=>exact(ak h).elim
    |str _=>exact(ak h).elim
    |RI=>exact(ak h).elim
   |own r ver=>
    simp only at h;replace h:=aj h;obtain⟨c,m2,l2,h2,h⟩:=h;rw[wP] at h2;cases h2;cases hc:get r m1 with
    |none=>rw[hc] at h;exact(ak h).elim
    |some c=>
     rw[hc] at h;cases c with
     |box _ _=>exact(ak h).elim
     |dead=>exact(ak h).elim
     |oN _ _=>exact(ak h).elim
     |Iy jf s rows=>simp only at h;replace h:=aj h;obtain⟨_,m2,l2,h2,h⟩:=h;obtain⟨hb,rfl,rfl⟩:=l9 h2;have hb:=yD hb;subst hb;replace h:=aj h;obtain⟨_,m2,l2,h2,h⟩:=h;obtain⟨hs,rfl,rfl⟩:=l9 h2;have hs:=yD hs;subst hs;replace h:=aj h;obtain⟨_,m2,l2,h2,h⟩:=h;obtain⟨hok,rfl,rfl⟩:=l9 h2;obtain⟨d',hd'⟩:=CS hok;obtain⟨inf,Hr⟩:=yt hd';simp only[aK,hc] at hx;have hx:=hx.2.2 trivial;subst hx;have hcell:=hA.ok.cell r _ hc (by rw[hA.out];simp);replace h:=aj h;obtain⟨row,m2,l2,h2,h⟩:=h;obtain⟨hrow,rfl,rfl⟩:=iw h2;simp only[run_pure,iq,jM] at h;obtain⟨rfl,rfl,_⟩:=h;obtain⟨h0,hlt,hget⟩:=aae hrow;obtain⟨b,o,cap,hμ,hl,_⟩:=apk hcell hget;rw[hμ];refine Iz.same hA (run_indexAt he Hr h0 au) ?_;simp only[aK,hc,hμ];exact⟨⟨_,_,rfl⟩,Nat.le_refl _,λ_=>⟨b,o,_,_,rfl,by rw[JK Hr];simp⟩⟩
     |arr fz fl jf s rows=>
      simp only at h;replace h:=aj h;obtain⟨_,m2,l2,h2,h⟩:=h;obtain⟨hb,rfl,rfl⟩:=l9 h2;have hb:=yD hb;subst hb;replace h:=aj h;obtain⟨_,m2,l2,h2,h⟩:=h;obtain⟨hs,rfl,rfl⟩:=l9 h2;have hs:=yD hs;subst hs;replace h:=aj h;obtain⟨_,m2,l2,h2,h⟩:=h;obtain⟨hok,rfl,rfl⟩:=l9 h2;obtain⟨d',hd'⟩:=CS hok;obtain⟨inf,Hr⟩:=yt hd';simp only[aK,hc] at hx;have hx:=hx.2.2 trivial;subst hx;have hcell:=hA.ok.cell r _ hc (by rw[hA.out];simp);cases fz with
      |true=>simp only at h;replace h:=aj h;obtain⟨row,m2,l2,h2,h⟩:=h;obtain⟨hrow,rfl,rfl⟩:=iw h2;simp only[run_pure,iq,jM] at h;obtain⟨rfl,rfl,_⟩:=h;exact seen (vw fl rows) false (aeA hcell.1) row hrow (.inr trivial) ⟨inf,Hr⟩
      |false=>simp only at h;replace h:=aj h;obtain⟨row,m2,l2,h2,h⟩:=h;obtain⟨hrow,rfl,rfl⟩:=iw h2;simp only[run_pure,iq,jM] at h;obtain⟨rfl,rfl,_⟩:=h;obtain⟨h0,hlt,hget⟩:=aae hrow;obtain⟨b,o,cap,hμ,ho,hl,_⟩:=apj hcell (uN _ _ _) hget;have ho:=ho rfl;subst ho;rw[hμ];refine Iz.same hA (run_indexAt he Hr h0 au) ?_;simp only[aK,hc,hμ];exact⟨⟨_,_,rfl⟩,Nat.le_refl _,λ_=>⟨b,_,_,rfl,by rw[JK Hr];simp⟩⟩
   |nil _=>exact(ak h).elim
   |ptr _ _=>exact(ak h).elim
   |wW _ _ _ _=>exact(ak h).elim
   |qO _ _=>exact(ak h).elim
   |zo _=>exact(ak h).elim
   |clo _ _ _=>exact(ak h).elim
   |agg _=>exact(ak h).elim
   |BU _=>exact(ak h).elim
   |undef=>exact(ak h).elim
  |bool _=>exact(ak h).elim
  |str _=>exact(ak h).elim
  |RI=>exact(ak h).elim
  |sl _ _ _=>exact(ak h).elim
 |nil _=>exact(ak h).elim
 |own _ _=>exact(ak h).elim
 |ptr _ _=>exact(ak h).elim
 |wW _ _ _ _=>exact(ak h).elim
 |qO _ _=>exact(ak h).elim
 |zo _=>exact(ak h).elim
 |clo _ _ _=>exact(ak h).elim
 |agg _=>exact(ak h).elim
 |BU _=>exact(ak h).elim
 |undef=>exact(ak h).elim
def akE{t e:TypeId}{n:Nat}(h:arT P t=some (n,e)):P.underlying t=some (.array n e):=by
 unfold arT at h;cases hu:P.underlying t with
 |none=>simp[hu] at h
 |some d=>rw[hu] at h;cases d<;>simp at h;obtain⟨rfl,rfl⟩:=h;rfl
def aaf{t e:TypeId}{k:IntKind}{i:Int}{b o n:Nat}(hu:P.underlying t=some (.array n e)){inf:TypeInfo}(hi:P.info? e=some inf)(h0:0<=i)(hn:i<n):
  (Instr.indexAt t (.pointer (some ⟨b,o,none⟩)) (.int k i)).run P w=.ok (.pointer (some ⟨b,o+i.toNat * inf.size,none⟩)) w:=by
 have hc:0<=i∧i<(n:Int):=⟨h0,hn⟩
 unfold Instr.indexAt;simp[asIntOf,run_underlying hu,hc,sizeOf,typeInfo,hi,MP,Instr.sureAddr]
def aha(hA:At base U M0 w0 w m G){t:TypeId}{x i:V}{gx gi:Value}(hx:aK G.μ m (Gh U w G) x gx)(hi:aK G.μ m (Gh U w G) i gi){v:V}{l l':Log}(h:(YO P t x i).run m l=some (v,m',l')):
  Iz base U M0 w0 w m G P (Instr.indexAt t gx gi) v m':=by
 unfold YO at h;cases ha:arT P t with
 |none=>rw[ha] at h;exact ag9 hA hx hi h
 |some q=>
  obtain⟨n,e⟩:=q;rw[ha] at h;have hu:=akE ha;cases i<;>try exact(ak h).elim
  rename_i y;cases y<;>try exact(ak h).elim
  rename_i k j;simp only[aK,ro] at hi;subst hi;simp only[akt] at h;replace h:=aj h;obtain⟨_,m1,l1,h1,h⟩:=h;obtain⟨hok,rfl,rfl⟩:=dN h1;replace h:=aj h;obtain⟨_,m1,l1,h1,h⟩:=h;obtain⟨hj,rfl,rfl⟩:=dN h1;simp only[FN,decide_eq_true_eq] at hj;obtain⟨d',hd'⟩:=CS hok;obtain⟨inf,Hr⟩:=yt hd';have hsz:=JK Hr;cases x<;>try exact(ak h).elim
  ·rename_i r off;simp only[run_pure,iq,jM] at h;obtain⟨rfl,rfl,_⟩:=h;simp only[aK] at hx;obtain⟨⟨b,o,rfl⟩,hx⟩:=hx;refine Iz.same hA (aaf hu Hr hj.1 hj.2) ?_;simp only[aK];refine⟨⟨b,_,rfl⟩, ?_⟩;cases hc:get r m1 with
   |none=>rw[hc] at hx;exact hx.elim
   |some c=>
    rw[hc] at hx;cases c with
    |box T cs=>obtain⟨b',h1,h2⟩:=hx;simp only[Value.pointer.injEq,iq,Addr.mk.injEq] at h2;obtain⟨rfl,rfl,_⟩:=h2;exact⟨b,h1,by rw[hsz]⟩
    |oN T cs=>obtain⟨b',h1,h2⟩:=hx;simp only[Value.pointer.injEq,iq,Addr.mk.injEq] at h2;obtain⟨rfl,rfl,_⟩:=h2;exact⟨b,h1,by rw[hsz]⟩
    |arr _ _ _ _ _=>exact hx.elim
    |dead=>trivial
    |Iy _ _ _=>exact hx.elim
  ·rename_i row off;simp only[run_pure,iq,jM] at h;obtain⟨rfl,rfl,_⟩:=h;simp only[aK] at hx;obtain⟨b,o,rfl,hr⟩:=hx;refine Iz.same hA (aaf hu Hr hj.1 hj.2) ?_;simp only[aK];exact⟨b,o,by rw[hsz,Nat.add_assoc],hr⟩
def ahY{μ:Nat->Value}{mm:Mem}{hh:View}:∀{cs:List V} {row:Row} {gs:List Value},ahJ cs=some row->bW μ mm hh cs gs->∀i:Nat,i<cs.length->∃g,gs[i]? =some g∧ro hh (nth row i) g
 |[],row,gs,h,q,i,hi=>by simp at hi
 |v::cs,row,gs,h,q,i,hi=>by
  simp only[bW] at q;obtain⟨g,gs',rfl,q1,q2⟩:=q;cases v<;>simp only[ahJ] at h<;>try cases h
  rename_i x;cases hr:ahJ cs with
  |none=>rw[hr] at h;cases h
  |some r=>
   rw[hr] at h;cases h;cases i with
   |zero=>exact⟨g,rfl,by simpa[nth,aK] using q1⟩
   |succ i=>obtain⟨g',h1,h2⟩:=ahY hr q2 i (by simpa using hi);exact⟨g',by simpa using h1,by simpa[nth] using h2⟩
def ajs(hA:At base U M0 w0 w m G){t e:TypeId}{n:Nat}{k:IntKind}{j:Int}{cs:List V}{gx:Value}(hu:P.underlying t=some (.array n e))(hx:aK G.μ m (Gh U w G) (.agg cs) gx){v:V}{l l':Log} (h:(do
  ck (Nat.beq (mQ P e) 1 &&(Nat.beq cs.length n &&(Fb P e && !(JI P e))))
  ck (decide (0<=j) && decide (j<(n:Int)))
  let row<-op' (ahJ cs)
  aer (match Qu P e with|[c]=>c|_=> .other) row j.toNat:Acc V).run m l=some (v,m',l')):
  Iz base U M0 w0 w m G P (Instr.index t gx (.int k j)) v m':=by
 replace h:=aj h;obtain⟨_,m1,l1,h1,h⟩:=h;obtain⟨hk,rfl,rfl⟩:=dN h1;simp only[FN,Bool.not_eq_true',Nat.beq_eq] at hk;obtain⟨hsz,hlen,hok,hagg⟩:=hk;replace h:=aj h;obtain⟨_,m1,l1,h1,h⟩:=h;obtain⟨hj,rfl,rfl⟩:=dN h1;simp only[FN,decide_eq_true_eq] at hj;replace h:=aj h;obtain⟨row,m1,l1,h1,h⟩:=h;obtain⟨hrow,rfl,rfl⟩:=iw h1;simp only[aK] at hx;obtain⟨arr,rfl,hs⟩:=hx;obtain⟨g,hg,hr⟩:=ahY hrow hs j.toNat au;obtain⟨d',hd'⟩:=CS hok;obtain⟨inf,Hr⟩:=yt hd';have hone:=JK Hr;have hrun:(Instr.index t (.agg arr) (.int k j)).run P w=.ok g w:=by
  unfold Instr.index;have hg':arr[j.toNat * inf.size]? =some g:=by rw[<-hone,hsz,Nat.mul_one];simpa using hg
  simp[asIntOf,run_underlying hu,hj.1,hj.2,sizeOf,typeInfo,Hr];unfold Go.part;simp[Us hd',hagg,hg']
 have fin:v=.d (nth row j.toNat)∧m'=m1:=by
  generalize (match Qu P e with|[c]=>c|_=>CT.other)=c at h;cases hx:nth row j.toNat<;>cases c<;>simp[aer,bI,OT,cStr,hx,asInt,asBool,ahI,Acc.run] at h
  ·rename_i k1 n1 k2
   by_cases e:k1=k2
   ·subst e;simp[Acc.run] at h;exact⟨h.1.symm,h.2.1.symm⟩
   ·simp[e,Acc.run] at h
  ·exact⟨h.1.symm,h.2.1.symm⟩
  ·exact⟨h.1.symm,h.2.1.symm⟩
 obtain⟨rfl,rfl⟩:=fin;exact Iz.same hA hrun (by simpa[aK] using hr)
end
end Go.Vm
namespace Go.Vm
open Go
section
variable {base:Nat} {U:Nat->Prop} {M0:List Nat} {w0 w w':World} {m m':Mem} {G G':GS} {P:Program}
def aqt(hA:At base U M0 w0 w m G){t:TypeId}{x i:V}{gx gi:Value}(hx:aK G.μ m (Gh U w G) x gx)(hi:aK G.μ m (Gh U w G) i gi){v:V}{l l':Log}(h:(aog P t x i).run m l=some (v,m',l')):
  Iz base U M0 w0 w m G P (Instr.index t gx gi) v m':=by
 unfold aog at h;cases hu:P.underlying t with
 |none=>rw[hu] at h;exact(ak h).elim
 |some d=>
  rw[hu] at h
  by_cases harr:∃n e,d=.array n e
  ·obtain⟨n,e,rfl⟩:=harr;cases x<;>try exact(ak h).elim
   cases i<;>try exact(ak h).elim
   rename_i y;cases y<;>try exact(ak h).elim
   simp only[aK,ro] at hi;subst hi;exact ajs hA hu hx h
  cases d<;>first|exact(ak h).elim|exact(harr ⟨_,_,rfl⟩).elim|skip
  cases x<;>try exact(ak h).elim
  rename_i y;cases y<;>try exact(ak h).elim
  rename_i s;cases i<;>try exact(ak h).elim
  rename_i y;cases y<;>try exact(ak h).elim
  rename_i k n;simp only[aK,ro] at hx hi;subst hx hi;dsimp only at h;cases hb:idx s n with
  |none=>rw[hb] at h;simp[Acc.run] at h
  |some b=>
   rw[hb] at h;change some (_,_,_)=_ at h;simp only[iq,jM] at h;obtain⟨rfl,rfl,_⟩:=h;obtain⟨h0,hlt,hget⟩:=aae hb;refine Iz.same hA (g:=.int .u8 b.toNat) ?_ (by simp[aK,ro]);have hg:(ByteArray.mk ⟨s⟩)[n.toNat]? =some b:=by
    have hsz:n.toNat<(ByteArray.mk ⟨s⟩).size:=hlt;rw[getElem?_pos (ByteArray.mk ⟨s⟩) n.toNat hsz];have:s[n.toNat]=b:=by have:=List.getElem?_eq_getElem hlt;rw[this] at hget;exact Option.some.inj hget
    exact congrArg some this
   simp[Instr.index,asIntOf,run_underlying hu,h0,hg]
def awM(hA:At base U M0 w0 w m G){t ty:TypeId}{x:V}{gx:Value}(hx:aK G.μ m (Gh U w G) x gx)
  (hk:∀s,x=.d (.str s)->P.underlying t=some .string) (hk':(∀s,x≠.d (.str s))->∃e,P.underlying t=some (.slice e)) {v:V} {l l':Log} (h:(lenV x).run m l=some (v,m',l')):
  Iz base U M0 w0 w m G P (Builtin.len_ #[t] ty #[gx]) v m':=by
 have slice:∀(a:Option Addr) (n c:Nat),(∃e,P.underlying t=some (.slice e))->Iz base U M0 w0 w m G P (Builtin.len_ #[t] ty #[.slice a n c]) (.d (.int .i64 n)) m:=by intro a n c ⟨e,he⟩;refine Iz.same hA (g:=.int .i64 n) ?_ (by simp[aK,ro]);simp[Builtin.len_,run_underlying he,goInt]
 cases x with
 |d y=>
  cases y with
  |str s=>change some (_,_,_)=_ at h;simp only[iq,jM] at h;obtain⟨rfl,rfl,_⟩:=h;simp only[aK,ro] at hx;subst hx;refine Iz.same hA (g:=.int .i64 s.length) ?_ (by simp[aK,ro]);have hsz:(ByteArray.mk ⟨s⟩).size=s.length:=rfl;simp[Builtin.len_,run_underlying (hk s rfl),goInt,hsz]
  |sl o s rows=>change some (_,_,_)=_ at h;simp only[iq,jM] at h;obtain⟨rfl,rfl,_⟩:=h;simp only[aK,ro] at hx;obtain⟨a,cap,rfl,_⟩:=hx;exact slice a rows.length cap (hk' (by simp))
  |int _ _=>exact(ak h).elim
  |bool _=>exact(ak h).elim
  |RI=>exact(ak h).elim
 |nil s=>change some (_,_,_)=_ at h;simp only[iq,jM] at h;obtain⟨rfl,rfl,_⟩:=h;simp only[aK] at hx;subst hx;exact slice none 0 0 (hk' (by simp))
 |own r ver=>
  simp only[lenV] at h;replace h:=aj h;obtain⟨c,m2,l2,h2,h⟩:=h;rw[wP] at h2;cases h2;cases hc:get r m with
  |none=>rw[hc] at h;exact(ak h).elim
  |some c=>
   rw[hc] at h;cases c with
   |box _ _=>exact(ak h).elim
   |dead=>exact(ak h).elim
   |oN _ _=>exact(ak h).elim
   |Iy jf s rows=>
    simp only at h;replace h:=aj h;obtain⟨_,m2,l2,h2,h⟩:=h;obtain⟨hb,rfl,rfl⟩:=l9 h2;have hb:=yD hb;subst hb;simp only[run_pure,iq,jM] at h;obtain⟨rfl,rfl,_⟩:=h;have hcell:=hA.ok.cell r _ hc (by rw[hA.out];simp);simp only[aK,hc] at hx;have hx:=hx.2.2 trivial;subst hx;rcases hcell with⟨rfl,hμ,_⟩|⟨b,o,cap,cs,T,hμ,_⟩
    ·rw[hμ];exact slice none 0 0 (hk' (by simp))
    ·rw[hμ];exact slice _ rows.length cap (hk' (by simp))
   |arr fz fl jf s rows=>simp only at h;replace h:=aj h;obtain⟨_,m2,l2,h2,h⟩:=h;obtain⟨hb,rfl,rfl⟩:=l9 h2;have hb:=yD hb;subst hb;simp only[run_pure,iq,jM] at h;obtain⟨rfl,rfl,_⟩:=h;have hro:=hA.ok.look hc (by rw[hA.out];simp) false;simp only[aK,hc] at hx;rw[<-hx.2.2 trivial] at hro;simp only[ro] at hro;obtain⟨a,cap,rfl,_⟩:=hro;exact slice a rows.length cap (hk' (by simp))
 |ptr _ _=>exact(ak h).elim
 |wW _ _ _ _=>exact(ak h).elim
 |qO _ _=>exact(ak h).elim
 |zo _=>exact(ak h).elim
 |clo _ _ _=>exact(ak h).elim
 |agg _=>exact(ak h).elim
 |BU _=>exact(ak h).elim
 |undef=>exact(ak h).elim
def aAj{H:Heap}{h:View}{c:CT}{g:Value}{x:D}{l l':Log}(hr:(toD (aa7 c g)).run m l=some (x,m',l')):m'=m∧ow H h x g []:=by
 unfold aa7 at hr;split at hr
 all_goals first
  |exact(ak hr).elim
  |(simp only[toD,roD,run_pure,iq,jM] at hr
    obtain⟨rfl,rfl,_⟩:=hr;exact⟨rfl,by simp[ow]⟩)
def akF{H:Heap}{h:View}:∀{cs:List CT} {gs:List Value} {xs:Row} {m m':Mem} {l l':Log},(OU (F9 cs gs)).run m l=some (xs,m',l')->m'=m∧iO H h xs gs []∧xs.length=gs.length
 |c::cs,g::gs,xs,m,m',l,l',hr=>by simp only[F9,OU] at hr;replace hr:=aj hr;obtain⟨x,m1,l1,h1,hr⟩:=hr;replace hr:=aj hr;obtain⟨ys,m2,l2,h2,hr⟩:=hr;simp only[run_pure,iq,jM] at hr;obtain⟨rfl,rfl,_⟩:=hr;obtain⟨rfl,q1⟩:=aAj (H:=H) (h:=h) h1;obtain⟨rfl,q2,q3⟩:=akF (H:=H) (h:=h) h2;exact⟨rfl,by simp only[iO];exact⟨g,gs,[],[],rfl,rfl,q1,q2⟩,by simp[q3]⟩
 |[],g::gs,xs,m,m',l,l',hr=>by simp only[F9,OU] at hr;replace hr:=aj hr;obtain⟨x,m1,l1,h1,hr⟩:=hr;exact(ak h1).elim
 |c::cs,[],xs,m,m',l,l',hr=>by simp only[F9,OU,run_pure,iq,jM] at hr;obtain⟨rfl,rfl,_⟩:=hr;exact⟨rfl,by simp[iO],rfl⟩
 |[],[],xs,m,m',l,l',hr=>by simp only[F9,OU,run_pure,iq,jM] at hr;obtain⟨rfl,rfl,_⟩:=hr;exact⟨rfl,by simp[iO],rfl⟩
def ahZ{H:Heap}{h:View}{row:Row}{z L:List Value}{cap:Nat}(hz:z.length=row.length)(hL:L.length=cap * row.length)(hj:∀i j,i<cap->j<row.length->L[i * row.length+j]? =z[j]?)(hq:iO H h row z []):
  ∀(n i:Nat),i+n<=cap->fO H h row.length (List.replicate n row) (L.drop (i * row.length)) []
 |0,i,_=>by simp[fO]
 |n+1,i,hi=>by
  rw[List.replicate_succ];simp only[fO];refine⟨trivial,[],[],rfl, ?_, ?_⟩
  ·refine O4 ?_ hq;apply List.ext_getElem?;intro j
   by_cases hjl:j<row.length
   ·rw[List.getElem?_take_of_lt hjl,List.getElem?_take_of_lt hjl,List.getElem?_drop,hj i j au hjl]
   ·rw[List.getElem?_eq_none (by rw[Ui];omega),List.getElem?_eq_none (by rw[Ui];omega)]
  ·rw[List.drop_drop];have:=ahZ hz hL hj hq n (i+1) au
   rwa [Nat.add_mul,Nat.one_mul] at this
def ahb(hA:At base U M0 w0 w m G){dst:Nat}{t:TypeId}{x y:V}{gx gy:Value}(hx:aK G.μ m (Gh U w G) x gx)(hy:aK G.μ m (Gh U w G) y gy){v:V}{l l':Log}(h:(YP P dst t x y).run m l=some (v,m',l')):
  Iz base U M0 w0 w m G P (Instr.makeSlice t gx gy) v m':=by
 simp only[YP,aku] at h;replace h:=aj h;obtain⟨e,m1,l1,h1,h⟩:=h;obtain⟨he,rfl,rfl⟩:=iw h1;have he:=RS he;replace h:=aj h;obtain⟨_,m1,l1,h1,h⟩:=h;obtain⟨hs,rfl,rfl⟩:=l9 h1;have hs:=Nat.le_of_ble_eq_true hs;replace h:=aj h;obtain⟨row,m1,l1,h1,h⟩:=h;replace h1:=aj h1;obtain⟨z,m2,l2,h2,h1⟩:=h1;obtain⟨hz,rfl,rfl⟩:=iw h2;unfold PD at hz;cases hi:P.info? e with
 |none=>simp[hi] at hz
 |some i=>
  simp only[hi] at hz;cases hzz:i.zero with
  |none=>simp[hzz] at hz
  |some zv=>
   simp only[hzz,iq] at hz;subst hz;obtain⟨rfl,hrow,hlen⟩:=akF (H:=dG w) (h:=Gh U w G) h1;replace h:=aj h;obtain⟨_,m2,l2,h2,h⟩:=h;obtain⟨hlr,rfl,rfl⟩:=l9 h2;have hlr:=yD hlr;have hsz:=JK hi;have hzs:zv.cells.size=i.size:=by
    have:zv.cells.toList.length=zv.cells.size:=by simp
    omega
   split at h
   next k1 n1 k2 n2=>
    replace h:=aj h;obtain⟨_,m3,l3,h3,h⟩:=h;obtain⟨hck,rfl,rfl⟩:=l9 h3;simp only[FN,decide_eq_true_eq] at hck;obtain⟨⟨⟨h0,hle⟩,hby⟩,hc⟩:=hck;replace h:=aj h;obtain⟨u,m4,l4,h4,h⟩:=h;simp only[run_pure,iq,jM] at h;obtain⟨rfl,rfl,_⟩:=h;simp only[aK,ro] at hx hy;subst hx hy;have hbt:Wn P e=i.bytes:=by simp[Wn,hi]
    rw[hbt] at hby;have hroom:(Wj:Int)=140737488355328:=rfl;rw[hroom] at hby hc;have hrun:=run_make (P:=P) w t e i zv he hi hzz k1 k2 n1 n2 h0 hle (by rw[Int.mul_comm];omega) au;have hE:=hA.E;have hrl:row.length=i.size:=au;have hq:fO (dG w) (Gh U w G) (mQ P e) (List.replicate n1.toNat row) (madeCells zv.cells (n2.toNat * i.size)).toList []:=by
     rw[hsz,<-hrl];have:=ahZ (H:=dG w) (h:=Gh U w G) (row:=row) (z:=zv.cells.toList) (L:=(madeCells zv.cells (n2.toNat * i.size)).toList) (cap:=n2.toNat) hlen.symm (by simp[size_madeCells,hrl]) ?_ hrow n1.toNat 0 au
     ·simpa[hrl] using this
     ·intro a b ha hb;have hlt:a * row.length+b<n2.toNat * i.size:=by
       rw[hrl] at hb⊢
       calc a * i.size+b<a * i.size+i.size:=au
        _=(a+1) * i.size:=by rw[Nat.add_mul,Nat.one_mul]
        _<=n2.toNat * i.size:=Nat.mul_le_mul_right _ ha
      have hbz:b<zv.cells.size:=au;have hmod:(a * row.length+b) % zv.cells.size=b:=by rw[hzs,<-hrl,Nat.mul_comm,Nat.mul_add_mod];exact Nat.mod_eq_of_lt hb
      simp only[madeCells,Array.toList_map,Array.toList_range,List.getElem?_map];rw[List.getElem?_range hlt];simp[hmod,hbz]
    have hqS:Fg (dG w) (Gh U w G) (tV P e) (mQ P e) (List.replicate n1.toNat row) (madeCells zv.cells (n2.toNat * i.size)).toList G.E:=by
     unfold Fg;rw[hE];split
     ·exact⟨L9 (View.le_refl _) _ _ _ [] (by intro b hb;simp at hb) hq,rfl⟩
     ·exact hq
    obtain⟨G',hnx,QN⟩:=acz hA.ok hA.out hA.fr (w1:=w) rfl (Keep.refl _ _) (cap:=n2.toNat) (T:=e) hqS (by simp;omega) (by simp[size_madeCells,hsz]) h4;refine⟨_,_,G',hrun,hnx, ?_⟩;simpa using QN
   next=>exact(ak h).elim
end
end Go.Vm
