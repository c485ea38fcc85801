import Derived.Test.YtephpnbbbimjbaaGreatDoorLxE
set_option linter.defProp false
set_option linter.unusedVariables false
set_option linter.unusedSimpArgs false
set_option linter.unusedSectionVars false
open Go.IntKind (i64)
namespace Go.Proofs.YtephpnbbbimjbaaGreatDoor
open Go Go.Vm
def aiV{k:Int}{x:aC}(h:iR k x=true)(hk:k=3\/k=4\/k=5\/k=6):Pe (GN x) [⟨k,x,0⟩] ⟨k,x,0⟩ [] where
 txt:=by rw[Qb];simp[spl]
 tks:=rfl
 ok:=h
 all:=trivial
 last:=by show qX k=true;rcases hk with h|h|h|h<;>subst h<;>rfl
 beg:=⟨by show k≠58;omega,by show k≠41;omega⟩
def Pe.aAH{d e:Tn}{T:List Tk}{b:Tk}{R:List Gt}(h:Pe d T b R)(he:Qa e=Qa d):Pe e T b R:=⟨he.trans h.txt,h.tks,h.ok,h.all,h.last,h.beg⟩
def aAI{d:Tn}{T:List Tk}{b:Tk}{R:List Gt}(h:Pe d T b R){o:Int}(ho:opn o)(h5:o=51\/o=52->b.kind≠5):Pe (D9 [GN (spell o),d]) (tok o::T) (tok o) (([],b)::R) where
 txt:=by rw[YG,qJ (Qb _) (PD h.txt)];have e1:(tok o).text=spell o:=rfl;simp[spl,e1]
 tks:=by rw[<-h.tks];rfl
 ok:=Vp (by unfold opn at ho;omega)
 all:=by rw[okS];exact⟨ab3,h.ok,afL ho h.beg h5,h.all⟩
 last:=h.last
 beg:=by show o≠58/\o≠41;unfold opn at ho;omega
def aJz{d:Tn}{T:List Tk}{b:Tk}{R:List Gt}(h:Pe d T b R){o:Int}(ho:o=55\/o=56\/o=61):Pe (D9 [GN (bif AZ (tok o) b then spell o++[32] else spell o),d]) (tok o::T) (tok o) ((bif AZ (tok o) b then[32] else[],b)::R) where
 txt:=by rw[YG,qJ (Qb _) (PD h.txt)];have e1:(tok o).text=spell o:=rfl;cases AZ (tok o) b<;>simp[spl,e1]
 tks:=by rw[<-h.tks];rfl
 ok:=Vp ak
 all:=by
  have hk:(tok o).kind=o:=rfl;have he:qX o=false:=by rcases ho with h|h|h<;>subst h<;>rfl
  rw[okS];refine⟨?_,h.ok,⟨λe=> ?_,λe=>absurd (hk ▸ e) ak,λe=>absurd (hk ▸ e) ak,λ_=>hk ▸ he,λe=>(by rcases e with e|e;exact absurd e h.beg.1;exact absurd e h.beg.2)⟩,h.all⟩
  ·cases AZ (tok o) b
   ·exact ab3
   ·exact ahY
  ·cases hg:AZ (tok o) b with
   |false=>rfl
   |true=>rw[hg] at e;cases e
 last:=h.last
 beg:=by show o≠58/\o≠41;omega
def aE6{d:Tn}{T:List Tk}{b:Tk}{R:List Gt}(h:Pe d T b R){o:Int}(ho:o=51\/o=52):Pe (D9 [d,GN (spell o)]) (T++[tok o]) b (R++[([],tok o)]):=by
 have e1:(tok o).text=spell o:=rfl;refine h.more rfl ?_ ?_ ?_
 ·rw[PD (Qb _)];simp[spl,e1]
 ·rw[okS];exact⟨ab3,Vp ak,NQ h.lok (.inl h.last) (by unfold closes;omega),trivial⟩
 ·show qX o=true;rcases ho with h|h<;>subst h<;>rfl
structure Mid(o:Int):Prop where
 op:(10<=o/\o<=26)\/(30<=o/\o<=68)
 no:qX o=false
def apk{a b:Tk}{R:List Gt}{o:Int}(hm:Mid o)(ha:qX a.kind=true)(hb:iR b.kind b.text=true)(aRR:beg b.kind)(hR:okS b R):okS a (([32],tok o)::([32],b)::R):=by have hk:(tok o).kind=o:=rfl;have hc:=YF ha;have:=hm.op;rw[okS,okS];refine⟨ahY,Vp hm.op,afM (by simp) ak ak (λe=>absurd (hk ▸ e) ak) (λ_=>ha),ahY,hb,afM (by simp) (by rw[hk];omega) (by rw[hk];omega) (λ_=>hk ▸ hm.no) (λe=>(by rcases e with e|e;exact absurd e aRR.1;exact absurd e aRR.2)),hR⟩
def aAJ{d e:Tn}{T U:List Tk}{b c:Tk}{R S:List Gt}(h:Pe d T b R)(k:Pe e U c S){o:Int}(hm:Mid o):Pe (D9 [d,GN ((32::spell o)++[32]),e]) (T++(tok o::U)) b (R++(([32],tok o)::([32],c)::S)):=by have e1:(tok o).text=spell o:=rfl;refine h.more (by rw[<-k.tks];rfl) ?_ (apk hm h.last k.ok k.beg k.all) k.last;rw[qJ (Qb _) (PD k.txt)];simp[spl,e1]
def aJA{d e:Tn}{T U:List Tk}{b c:Tk}{R S:List Gt}(h:Pe d T b R)(k:Pe e U c S)(h5:c.kind≠5):Pe (D9 [d,GN [32],e]) (T++U) b (R++(([32],c)::S)):=by
 have hl:=h.l72;refine h.more (by rw[<-k.tks];rfl) ?_ ?_ k.last
 ·rw[qJ (Qb _) (PD k.txt)];simp[spl]
 ·rw[okS];exact⟨ahY,k.ok,afM (by simp) hl.1 hl.2 (λe=>absurd e h5) (λ_=>h.last),k.all⟩
def aE7{d e f:Tn}{T U V:List Tk}{b c a:Tk}{R S W:List Gt}(h:Pe d T b R)(k:Pe e U c S)(m:Pe f V a W):Pe (D9 [d,GN [32,63,32],e,GN [32,58,32],f]) (T++(tok 65::(U++(tok 66::V)))) b (R++(([32],tok 65)::([32],c)::(S++(([32],tok 66)::([32],a)::W)))):=by
 have hm5:Mid 65:=⟨ak,rfl⟩
 have hm6:Mid 66:=⟨ak,rfl⟩
 have h2:okS c (S++(([32],tok 66)::([32],a)::W)):=by rw[Pz];exact⟨k.all,apk hm6 k.last m.ok m.beg m.all⟩
 have hlast:qX (lastT c (S++(([32],tok 66)::([32],a)::W))).kind=true:=by rw[BK];exact m.last
 refine h.more (by rw[<-k.tks,<-m.tks];simp) ?_ (apk hm5 h.last k.ok k.beg h2) hlast
 ·have e1:(tok 65).text=[63]:=rfl;have e2:(tok 66).text=[58]:=rfl;rw[qJ (Qb _) (qJ k.txt (qJ (Qb _) (PD m.txt)))];simp[spl,Dv,e1,e2]
def aiW{x:aC}(h:DY x=true):iR 6 x=true/\iR 7 x=true:=by
 have h0:(x==[])=false:=by
  cases x with
  |nil=>exact absurd h (by decide)
  |cons=>rfl
 unfold iR;rw[h0,h];exact⟨rfl,rfl⟩
def aJB{x:aC}(h:P8 x=true):iR 8 x=true:=by
 have h0:(x==[])=false:=by
  cases x with
  |nil=>exact absurd h (by decide)
  |cons=>rfl
 unfold iR;rw[h0,h];rfl
def aGW{a:Tk}{x:aC}(ha:qX a.kind=true)(hx:DY x=true):okS a [([32],tok 24),([32],⟨6,x,0⟩)]:=by have:=apk (a:=a) (b:=⟨6,x,0⟩) (R:=[]) (o:=24) ⟨ak,rfl⟩ ha (aiW hx).1 ⟨by show(6:Int)≠58;decide,by show(6:Int)≠41;decide⟩ trivial;exact this
def aRS{d:Tn}{T:List Tk}{b:Tk}{R:List Gt}(h:Pe d T b R){x:aC}(hx:DY x=true):Pe (D9 [d,GN ([32,105,110,32]++x)]) (T++[tok 24,⟨6,x,0⟩]) b (R++[([32],tok 24),([32],⟨6,x,0⟩)]):=by have e1:(tok 24).text=[105,110]:=rfl;refine h.more rfl ?_ (aGW h.last hx) rfl;rw[PD (Qb _)];simp[spl,e1]
def aJC{D:List Tn}{T:List (List Tk)}(h:PcL D T){x:aC}(hx:DY x=true):∃R,Pe (D9 [GN [40],XJ D,GN ([41,32,105,110,32]++x)]) ((tok 32::(uX true T++[tok 33]))++[tok 24,⟨6,x,0⟩]) (tok 32) R:=by
 obtain⟨Q,h1,h2,h3⟩:=awk D T h (o:=32) (c:=33) (.inl rfl) (.inl rfl);have e0:(tok 32).text=[40]:=rfl;have e1:(tok 24).text=[105,110]:=rfl;have e2:(tok 33).text=[41]:=rfl;refine⟨(Q++[([],tok 33)])++[([32],tok 24),([32],⟨6,x,0⟩)],⟨?_, ?_,Vp ak, ?_, ?_,⟨by decide,by decide⟩⟩⟩
 ·rw[YG,qJ (Qb _) (qJ h1 (PD (Qb _)))];simp[spl,Dv,e0,e1,e2]
 ·rw[<-h2];simp
 ·rw[Pz];refine⟨h3,aGW ?_ hx⟩;rw[BK];rfl
 ·rw[BK];rfl
def PtT(u:Tn):Prop:=Kz u->PW u->txT u->∀p,jL p=true->∃b R,Pe (zX u p) (mV u p) b R/\(SN u.kind=true->b.kind=6\/b.kind=68)/\(p.ng=true->u.kind≠4->u.kind≠9->u.kind≠11->b.kind≠5)
def ax1{k op:Int}{q:Ps}(h:fits k op q=true)(hs:q.ng=true):k≠4/\k≠9/\k≠11:=by
 unfold fits at h;cases h1:(!(jL q)||lvl k op==0) with
 |true=>rw[h1] at h;cases h
 |false=>
 rw[h1,aQ] at h;cases h2:(q.Ad && k==13) with
 |true=>rw[h2] at h;cases h
 |false=>
 rw[h2,aQ] at h;cases h3:(q.Du &&(k==12 && op==62)) with
 |true=>rw[h3] at h;cases h
 |false=>
 rw[h3,aQ] at h;cases h4:(q.ng &&(k==11||(k==9||k==4))) with
 |true=>rw[h4] at h;cases h
 |false=>
 rw[hs,Bool.true_and,Bool.or_eq_false_iff,Bool.or_eq_false_iff,mX,mX,mX] at h4;exact⟨h4.2.2,h4.2.1,h4.1⟩
def PE{u:Tn}(ih:PtT u)(h1:Kz u)(h2:PW u)(h3:txT u){q:Ps}(hq:jL q=true){g:Bool}(hg:g=true->SN u.kind=true):
  ∃b R,Pe (bif g||fits u.kind u.op q then zX u q else D9 [GN [40],zX u .top,GN [41]]) (bif g||fits u.kind u.op q then mV u q else tok 32::(mV u .top++[tok 33])) b R/\(g=true->b.kind=6\/b.kind=68)/\(q.ng=true->b.kind≠5):=by
 cases hf:fits u.kind u.op q with
 |true=>obtain⟨b,R,a1,a2,a3⟩:=ih h1 h2 h3 q hq;rw[Bool.or_true,aG,aG];refine⟨b,R,a1,λe=>a2 (hg e),λe=> ?_⟩;have:=ax1 hf e;exact a3 e this.1 this.2.1 this.2.2
 |false=>
  cases g with
  |true=>obtain⟨b,R,a1,a2,a3⟩:=ih h1 h2 h3 q hq;refine⟨b,R,a1,λe=>a2 (hg e),λe=> ?_⟩;have:=a2 (hg rfl);omega
  |false=>obtain⟨b,R,a1,a2,a3⟩:=ih h1 h2 h3 .top rfl;exact⟨_,_,aJy a1,λe=>absurd e (by decide),λ_=>by decide⟩
def afN(k op:Int)(n:Nat)(p:Ps)(ht:∀j,kM k j=false)(hp:∀j,j<n->jL (aU k op n j p)=true):∀(ks:List Tn) (j:Nat),j+ks.length<=n->(∀u,u∈ks->PtT u/\Kz u/\PW u/\txT u)->PcL (nZ k op n p ks j) (fF k op n p ks j)
 |[],_,_,_=>by rw[nZ,fF];trivial
 |u::ks,j,hj,h=>by rw[yS] at hj;rw[nZ,fF,PcL];obtain⟨h1,h2,h3,h4⟩:=h u (by simp);obtain⟨b,R,a1,_⟩:=PE h1 h2 h3 h4 (hp j ak) (g:=kM k j) (λe=>by rw[ht] at e;cases e);exact⟨⟨b,R,a1⟩,afN k op n p ht hp ks (j+1) ak λu hu=>h u (by simp[hu])⟩
def ax2{op:Int}(h:iT op≠0):op=44\/op=45\/op=67\/op=46\/op=63\/op=48\/op=47\/op=50\/op=62\/op=49\/op=99\/op=55\/op=56\/op=57\/op=58\/op=59\/op=60:=by
 by_cases hc:op=44\/op=45\/op=67\/op=46\/op=63\/op=48\/op=47\/op=50\/op=62\/op=49\/op=99\/op=55\/op=56\/op=57\/op=58\/op=59\/op=60
 ·exact hc
 ·exfalso;apply h;simp only[not_or] at hc;obtain⟨h1,h2,h3,h4,h5,h6,h7,h8,h9,h10,h11,h12,h13,h14,h15,h16,h17⟩:=hc;simp only[iT,mX.2 h1,mX.2 h2,mX.2 h3,mX.2 h4,mX.2 h5,mX.2 h6,mX.2 h7,mX.2 h8,mX.2 h9,mX.2 h10,mX.2 h11,mX.2 h12,mX.2 h13,mX.2 h14,mX.2 h15,mX.2 h16,mX.2 h17,Bool.or_self,aQ]
def aE8{op:Int}(h:iT op≠0)(h9:op≠99):Mid op:=by
 have hc:=ax2 h;refine⟨ak, ?_⟩;rcases hc with h|h|h|h|h|h|h|h|h|h|h|h|h|h|h|h|h
 all_goals first
  |exact absurd h h9
  |(subst h;rfl)
def aE9{op:Int}(h:op=54\/(38<=op/\op<=43)):Mid op:=by refine⟨ak, ?_⟩;have:op=54\/op=38\/op=39\/op=40\/op=41\/op=42\/op=43:=ak;rcases this with h|h|h|h|h|h|h<;>subst h<;>rfl
def ak7{k op:Int}{n:Nat}{p:Ps}(hp:jL p=true)(hn:0<n)(hl:lvl k op≠0)(hl2:lvl k op≠15)(hk:k=12\/(k=13/\n=1)\/k=14)(hs:p.ng=true):(aU k op n 0 p).ng=true:=by
 have h1:Nat.blt 0 n=true:=by rw[Nat.blt_eq];exact hn
 have h2:(k==13 && Nat.blt 1 n)=false:=by
  rw[Bool.and_eq_false_iff,mX]
  by_cases h:k=13
  ·right;have:n=1:=ak;rw[this];rfl
  ·exact .inl h
 unfold aU;rw[hp,h1,mX.2 hl,mX.2 hl2,h2];simp only[zaP,Bool.or_self,aQ,hs];rw[show(k==11||(k==9||(k==10||k==6)))=false by simp only[Bool.or_eq_false_iff,mX];omega];rfl
def aAK{p:Ps}(hp:jL p=true):(aU 12 99 2 1 p).ng=true:=by unfold aU;rw[hp];rfl
def auC{k op:Int}{x y:aC}{ks:List Tn}(h:Kz (.mk k op x y ks))(hk:k=9\/k=10\/k=15){u:Tn}(hu:ks[0]? =some u):SN u.kind=true:=by
 have h1:=(agV h hu).1;have h2:cls k op ks.length 0=6:=by unfold cls;rw[if_pos ak]
 rw[h2] at h1;have:u.kind=1\/u.kind=5\/u.kind=6:=h1;unfold SN;rcases this with h|h|h<;>rw[h]<;>rfl
def aFa(t:Tn):PtT t:=by
 refine Tn.ind (P:=PtT) ?_ t;intro k op x y ks ih hok he htx p hp;rw[txT] at htx;obtain⟨hx,hks⟩:=htx;have hc:=Vg hok;have he':1<=k/\k<=15:=he;have hl:=Ui he' hc;have hpos:∀j,j<ks.length->jL (aU k op ks.length j p)=true:=λj hj=>jF hp hj ak
 have SC:∀(j:Nat) (u:Tn),ks[j]? =some u->PtT u/\Kz u/\PW u/\txT u:=λj u hu=>by have h1:=abf hok he' hu;exact⟨ih u (WW hu),h1.2,h1.1,awh hks hu⟩
 have hmem:∀u,u∈ks->PtT u/\Kz u/\PW u/\txT u:=λu hu=>by obtain⟨j,hj,hxj⟩:=List.mem_iff_getElem.1 hu;exact SC j u (NV.2 ⟨hj,hxj⟩)
 have hL:ks.length=ks.length:=rfl;rw[zX,mV];show∃b R,Pe _ _ b R/\(SN k=true->_)/\(_->k≠4->k≠9->k≠11->_);have hk:k=1\/k=2\/k=3\/k=4\/k=5\/k=6\/k=7\/k=8\/k=9\/k=10\/k=11\/k=12\/k=13\/k=14\/k=15:=ak;rcases hk with rfl|rfl|rfl|rfl|rfl|rfl|rfl|rfl|rfl|rfl|rfl|rfl|rfl|rfl|rfl
 ·exact⟨_,_,aiV (aiW (hx.1 ak)).1 ak,λ_=> .inl rfl,λ_ _ _ _=>by show(6:Int)≠5;decide⟩
 ·exact⟨_,_,aiV (hx.2.1 rfl) ak,λe=>absurd e (by decide),λ_ _ _ _=>by show(3:Int)≠5;decide⟩
 ·exact⟨_,_,aiV (hx.2.2.1 rfl) ak,λe=>absurd e (by decide),λ_ _ _ _=>by show(4:Int)≠5;decide⟩
 ·exact⟨_,_,aiV (hx.2.2.2.1 rfl) ak,λe=>absurd e (by decide),λ_ e=>absurd rfl e⟩
 ·have hP:=afN 5 op ks.length p (λj=>by simp[kM]) hpos ks 0 ak hmem;obtain⟨R,hR⟩:=ak6 _ _ hP (a:=⟨6,x,0⟩) (o:=34) (c:=35) (aiW (hx.1 ak)).1 (.inl ⟨rfl,rfl,rfl⟩);exact⟨_,_,hR,λ_=> .inl rfl,λ_ _ _ _=>by show(6:Int)≠5;decide⟩
 ·have h1:=hc.one ak
  match ks,h1 with
  |[u],_=>
  obtain⟨a1,a2,a3,a4⟩:=SC 0 u rfl;obtain⟨b,R,hR,_⟩:=PE a1 a2 a3 a4 (hpos 0 (by simp)) (g:=kM 6 0) (λe=>absurd e (by decide));exact⟨_,_,aAI hR (o:=68) (by unfold opn;omega) (λe=>by omega),λ_=> .inr rfl,λ_ _ _ _=>by show(68:Int)≠5;decide⟩
 ·have hP:=afN 7 op ks.length p (λj=>by simp[kM]) hpos ks 0 ak hmem;obtain⟨R,hR⟩:=ak6 _ _ hP (a:=⟨7,x,0⟩) (o:=32) (c:=33) (aiW (hx.1 ak)).2 (.inr ⟨.inl rfl,rfl,rfl⟩);exact⟨_,_,hR,λe=>absurd e (by decide),λ_ _ _ _=>by show(7:Int)≠5;decide⟩
 ·have hP:=afN 8 op ks.length p (λj=>by simp[kM]) hpos ks 0 ak hmem;obtain⟨R,hR⟩:=ak6 _ _ hP (a:=⟨8,x,0⟩) (o:=32) (c:=33) (aJB (hx.2.2.2.2 rfl)) (.inr ⟨.inr rfl,rfl,rfl⟩);exact⟨_,_,hR,λe=>absurd e (by decide),λ_ _ _ _=>by show(8:Int)≠5;decide⟩
 ·have h1:=hc.one ak;have hs:=hc.stp ak
  match ks,h1 with
  |[u],_=>
  obtain⟨a1,a2,a3,a4⟩:=SC 0 u rfl;obtain⟨b,R,hR,h6,_⟩:=PE a1 a2 a3 a4 (hpos 0 (by simp)) (g:=kM 9 0) (λ_=>auC hok ak rfl);have:=h6 rfl;exact⟨_,_,aAI hR (o:=op) (by unfold opn;omega) (λe=>by omega),λe=>absurd e (by decide),λ_ _ e=>absurd rfl e⟩
 ·have h1:=hc.one ak;have hs:=hc.stp ak
  match ks,h1 with
  |[u],_=>
  obtain⟨a1,a2,a3,a4⟩:=SC 0 u rfl;obtain⟨b,R,hR,h6,_⟩:=PE a1 a2 a3 a4 (hpos 0 (by simp)) (g:=kM 10 0) (λ_=>auC hok ak rfl);have:=h6 rfl;have h5:b.kind≠5:=ak;exact⟨_,_,aE6 hR hs,λe=>absurd e (by decide),λ_ _ _ _=>h5⟩
 ·have h1:=hc.one ak;have hs:=hc.una rfl
  match ks,h1 with
  |[u],_=>
  obtain⟨a1,a2,a3,a4⟩:=SC 0 u rfl;obtain⟨b,R,hR,h6,_⟩:=PE a1 a2 a3 a4 (hpos 0 (by simp)) (g:=kM 11 0) (λe=>absurd e (by decide));refine⟨_,_,(aJz hR hs).aAH ?_,λe=>absurd e (by decide),λ_ _ _ e=>absurd rfl e⟩;rw[fF,fF,nZ,nZ,<-hR.tks];rfl
 ·have h1:=hc.two ak;have hb:=hc.bin rfl
  match ks,h1 with
  |[u,v],_=>
  obtain⟨a1,a2,a3,a4⟩:=SC 0 u rfl;obtain⟨b1,b2,b3,b4⟩:=SC 1 v rfl;obtain⟨b,R,hR,_,hRs⟩:=PE a1 a2 a3 a4 (hpos 0 (by simp)) (g:=kM 12 0) (λe=>absurd e (by decide));obtain⟨c,S,hS,_,hSs⟩:=PE b1 b2 b3 b4 (hpos 1 (by simp)) (g:=kM 12 1) (λe=>absurd e (by decide));have asf:lvl 12 op≠15:=by have:=SA op;show iT op≠15;omega
  have hfin:p.ng=true->b.kind≠5:=λe=>hRs (ak7 hp (by simp) ak asf ak e)
  rw[fF,fF,fF,nZ,nZ,nZ]
  by_cases h99:op=99
  ·subst h99;exact⟨_,_,aJA hR hS (hSs (aAK hp)),λe=>absurd e (by decide),λe _ _ _=>hfin e⟩
  ·have hm:=aAJ hR hS (aE8 hb.1 h99);refine⟨b,R++(([32],tok op)::([32],c)::S), ?_,λe=>absurd e (by decide),λe _ _ _=>hfin e⟩;have e9:(op==99)=false:=mX.2 h99;simp only[D8,abZ,Int.reduceBEq,Bool.or_self,Bool.false_or,Bool.or_false,aQ,Bool.true_and,e9];cases hq:(op==45||op==44) with
   |false=>exact hm
   |true=>rw[aG];refine hm.aAH ?_;rw[hm.txt];have ht:=hm.txt;rw[YG,qJ hR.txt (qJ (Qb _) (PD hS.txt))] at ht;rw[<-Option.some.inj ht];refine PD ?_;rw[awi];refine PD ?_;rw[YG];refine(qJ hR.txt (qJ (Qb _) (qJ awj (PD hS.txt)))).trans ?_;simp
 ·have h1:=hc.some_ ak;have hnx:=hx.1 ak
  by_cases h2:1<ks.length
  ·have hP:=afN 13 op ks.length p (λj=>by simp[kM]) hpos ks 0 ak hmem;obtain⟨R,hR⟩:=aJC hP hnx;have hbl:Nat.blt 1 ks.length=true:=by rw[Nat.blt_eq];exact h2
   refine⟨tok 32,R, ?_,λe=>absurd e (by decide),λ_ _ _ _=>by show(32:Int)≠5;decide⟩
   ·simp only[D8,abZ,Int.reduceBEq,Bool.or_self,aQ,aG,hbl];exact hR
  ·have h1:ks.length=1:=ak
   match ks,h1 with
   |[u],_=>
   obtain⟨a1,a2,a3,a4⟩:=SC 0 u rfl;obtain⟨b,R,hR,_,hRs⟩:=PE a1 a2 a3 a4 (hpos 0 (by simp)) (g:=kM 13 0) (λe=>absurd e (by decide));have asf:lvl 13 op≠15:=by show(5:Int)≠15;decide
   exact⟨_,_,aRS hR hnx,λe=>absurd e (by decide),λe _ _ _=>hRs (ak7 hp (by simp) ak asf (by simp) e)⟩
 ·have h1:=hc.three rfl
  match ks,h1 with
  |[u,v,w],_=>
  obtain⟨a1,a2,a3,a4⟩:=SC 0 u rfl;obtain⟨b1,b2,b3,b4⟩:=SC 1 v rfl;obtain⟨c1,c2,c3,c4⟩:=SC 2 w rfl;obtain⟨b,R,hR,_,hRs⟩:=PE a1 a2 a3 a4 (hpos 0 (by simp)) (g:=kM 14 0) (λe=>absurd e (by decide));obtain⟨c,S,hS,_,_⟩:=PE b1 b2 b3 b4 (hpos 1 (by simp)) (g:=kM 14 1) (λe=>absurd e (by decide));obtain⟨d,W,hW,_,_⟩:=PE c1 c2 c3 c4 (hpos 2 (by simp)) (g:=kM 14 2) (λe=>absurd e (by decide));have asf:lvl 14 op≠15:=by show(2:Int)≠15;decide
  exact⟨_,_,aE7 hR hS hW,λe=>absurd e (by decide),λe _ _ _=>hRs (ak7 hp (by simp) ak asf ak e)⟩
 ·have h1:=hc.two ak;have hb:=hc.asg rfl
  match ks,h1 with
  |[u,v],_=>
  obtain⟨a1,a2,a3,a4⟩:=SC 0 u rfl;obtain⟨b1,b2,b3,b4⟩:=SC 1 v rfl;obtain⟨b,R,hR,h6,_⟩:=PE a1 a2 a3 a4 (hpos 0 (by simp)) (g:=kM 15 0) (λ_=>auC hok ak rfl);obtain⟨c,S,hS,_,_⟩:=PE b1 b2 b3 b4 (hpos 1 (by simp)) (g:=kM 15 1) (λe=>absurd e (by decide));have:=h6 rfl;have hm:=aAJ hR hS (aE9 hb);have e9:(op==99)=false:=mX.2 ak;have h5:b.kind≠5:=ak;refine⟨b,R++(([32],tok op)::([32],c)::S), ?_,λe=>absurd e (by decide),λe _ _ _=>h5⟩
  ·rw[fF,fF,fF,nZ,nZ,nZ];simp only[D8,abZ,Int.reduceBEq,Bool.or_self,Bool.false_and,aQ,e9];exact hm
def aFb{t:Tn}(h1:Kz t)(h2:PW t)(h3:txT t){p:Ps}(hp:jL p=true):∃b R,Pe (P9 t p) (lu t p) b R/\(p.ng=true->b.kind≠5):=by obtain⟨b,R,a1,_,a3⟩:=PE (aFa t) h1 h2 h3 hp (g:=false) (λe=>absurd e (by decide));exact⟨b,R,a1,a3⟩
end Go.Proofs.YtephpnbbbimjbaaGreatDoor
namespace Go.Proofs.YtephpnbbbimjbaaGreatDoor
open Go Go.Vm
def KO{α:Type}(f:Nat->PR α)(r:PR α):Prop:=∃N,∀n,N<=n->f n=r
def iD{α:Type}(r:PR α):KO (λ_=>r) r:=⟨0,λ_ _=>rfl⟩
def iF{α:Type}{f:Nat->PR α}{r:PR α}(h:KO (λn=>f (n+1)) r):KO f r:=by
 obtain⟨N,h⟩:=h;refine⟨N+1,λn hn=> ?_⟩;obtain⟨m,rfl⟩:∃m,n=m+1:=⟨n - 1,ak⟩
 exact h m ak
def fO{α β:Type}{f:Nat->PR α}{g:Nat->α->Nat->jf->PR β}{x:α}{j:Nat}{m:jf}{r:PR β}(h:KO f (.ok x j m))(k:KO (λn=>g n x j m) r):KO (λn=>(f n).bind (g n)) r:=by obtain⟨N,h⟩:=h;obtain⟨K,k⟩:=k;refine⟨N+K,λn hn=> ?_⟩;have h1:=h n ak;have k1:=k n ak;simp only[h1];exact k1
def bK{α:Type}{f g:Nat->PR α}{r:PR α}(h:KO f r)(e:∀n,g n=f n):KO g r:=by obtain⟨N,h⟩:=h;exact⟨N,λn hn=>by rw[e];exact h n hn⟩
structure Stp(lv:Nat)(a b:Bool)(k:Int):Prop where
 asg:lv<=1->Sr k=false
 cond:lv<=2->k≠65
 op:∀m:Nat,lv<=m->iT k=(m:Int)->b=true/\k=62
 in_:lv<=5->a=false->k≠24
 cat:lv<=8->agZ k=false
 step:lv<=13->isStep k=false
 brk:k≠34
def Stp.mono{lv lv':Nat}{a b:Bool}{k:Int}(h:Stp lv a b k)(hl:lv<=lv'):Stp lv' a b k:=
 ⟨λe=>h.asg ak,λe=>h.cond ak,λm e=>h.op m ak,λe=>h.in_ ak,λe=>h.cat ak,λe=>h.step ak,h.brk⟩
def aAL{lv:Nat}{a b:Bool}{k:Int}(h:Stp lv a b k){m:Nat}(hm:lv<=m)(h7:m≠7):iT k≠(m:Int):=λe=>by have:=h.op m hm e;rw[this.2] at e;have h62:iT 62=7:=rfl;omega
def awl{lv:Nat}{a b:Bool}{k:Int}(h:Stp lv a b k):Gz lv (b && Nat.beq lv 7) k=false:=by
 unfold Gz;cases h8:Nat.beq lv 8 with
 |true=>rw[aG];exact h.cat (by rw[Nat.beq_eq] at h8;omega)
 |false=>
  rw[aQ]
  by_cases h7:lv=7
  ·subst h7;rw[show Nat.beq 7 7=true from rfl,Bool.and_true];cases hc:iT k==((7:Nat):Int) with
   |false=>rfl
   |true=>rw[beq_iff_eq] at hc;have:=h.op 7 (zaQ _) hc;rw[this.1,this.2];rfl
  ·have:=aAL h (zaQ _) h7;rw[mX.2 this,Bool.false_and]
def bgE(k:Int):Prop:=(3<=k/\k<=8)\/k=32\/k=68\/k=51\/k=52\/k=55\/k=56\/k=61
variable {l:List Tk}
def drop_at{i:Nat}{k:Int}(h:aP l i=k)(h0:k≠0):∃t,l.drop i=t::l.drop (i+1)/\t.kind=k:=by
 unfold aP at h;cases ht:l[i]? with
 |none=>rw[ht] at h;exact absurd h.symm h0
 |some t=>rw[ht] at h;have hl:=NV.1 ht;exact⟨t,by rw[List.drop_eq_getElem_cons hl.1,hl.2],h⟩
def ntr(k:Int):Prop:=k≠0/\k≠30/\k≠31/\k≠32/\k≠33/\k≠34/\k≠35/\k≠36
def qj{i:Nat}(h:ntr (aP l i)){d:Int}(hd:1<=d):ahead (l.drop i) d=ahead (l.drop (i+1)) d:=by
 obtain⟨h0,h1,h2,h3,h4,h5,h6,h7⟩:=h;obtain⟨t,e,hk⟩:=drop_at rfl h0;rw[e,ahead,hk];have e1:Vh (aP l i)=false:=by unfold Vh;simp[h1,h3,h5]
 have e2:YC (aP l i)=false:=by unfold YC;simp[h2,h4,h6]
 rw[e1,e2,mX.2 h7,Bool.false_and,vG (show¬d<=0 by omega)];rfl
def Nk{i:Nat}(h:aP l i=32\/aP l i=34)(d:Int):ahead (l.drop i) d=ahead (l.drop (i+1)) (d+1):=by
 obtain⟨t,e,hk⟩:=drop_at (l:=l) (i:=i) rfl ak;rw[e,ahead,hk];have e1:Vh (aP l i)=true:=by unfold Vh;rcases h with h|h<;>rw[h]<;>rfl
 rw[e1];rfl
def Vq{i:Nat}(h:aP l i=33\/aP l i=35){d:Int}(hd:2<=d):ahead (l.drop i) d=ahead (l.drop (i+1)) (d - 1):=by
 obtain⟨t,e,hk⟩:=drop_at (l:=l) (i:=i) rfl ak;rw[e,ahead,hk];have e1:Vh (aP l i)=false:=by unfold Vh;rcases h with h|h<;>rw[h]<;>rfl
 have e2:YC (aP l i)=true:=by unfold YC;rcases h with h|h<;>rw[h]<;>rfl
 rw[e1,e2,vG (show¬d - 1<=0 by omega)];rfl
def ash{i:Nat}(h:aP l i=33):ahead (l.drop i) 1=false:=by obtain⟨t,e,hk⟩:=drop_at (l:=l) (i:=i) rfl ak;rw[e,ahead,hk,h];rfl
def ax3{i:Nat}(h:aP l i=36){d:Int}(hd:2<=d):ahead (l.drop i) d=ahead (l.drop (i+1)) d:=by obtain⟨t,e,hk⟩:=drop_at (l:=l) (i:=i) rfl ak;rw[e,ahead,hk,h];rw[show Vh 36=false from rfl,show YC 36=false from rfl,mX.2 (show d≠1 by omega),vG (show¬d<=0 by omega)];rfl
def auD{i:Nat}(h:aP l i=36):ahead (l.drop i) 1=true:=by obtain⟨t,e,hk⟩:=drop_at (l:=l) (i:=i) rfl ak;rw[e,ahead,hk,h];rfl
def pst(l:List Tk)(i i':Nat):Prop:=i<=i'/\∀k,i<=k->k<i'->aP l k=1
def apl{i':Nat}(hk:aP l i'≠1/\aP l i'≠2)(nt:jf):∀(d i:Nat),i' - i=d->pst l i i'->nl l i nt=(i',nt)
 |0,i,hd,h=>by
  obtain rfl:i=i':=by have:=h.1;omega
  unfold nl;unfold aP at hk;cases ht:l[i]? with
  |none=>rw[List.getElem?_eq_none_iff] at ht;rw[List.drop_eq_nil_of_le ht,nlR]
  |some t=>rw[ht] at hk;simp only at hk;have hl:=NV.1 ht;rw[List.drop_eq_getElem_cons hl.1,hl.2,nlR,mX.2 hk.1,mX.2 hk.2];rfl
 |d+1,i,hd,h=>by have h1:=h.2 i (zaQ _) ak;obtain⟨t,e,ht⟩:=drop_at (l:=l) (i:=i) rfl (show aP l i≠0 by rw[h1];decide);have ih:=apl hk nt d (i+1) ak ⟨ak,λk h2 h3=>h.2 k ak h3⟩;unfold nl at ih|-;rw[e,nlR,ht,h1];exact ih
end Go.Proofs.YtephpnbbbimjbaaGreatDoor
namespace Go.Proofs.YtephpnbbbimjbaaGreatDoor
open Go Go.Vm
def chain(lv:Nat):Prop:=lv=3\/lv=4\/lv=8\/lv=9\/lv=10
structure Rl(l:List Tk)(x:Xp)(i j:Nat)(a b:Bool)(lv:Nat):Prop where
 s1:∀nt,Stp lv a b (aP l j)->KO (λn=>ex l n lv a b i nt) (.ok x j nt)
 s2:chain lv->∀nt r,Stp (lv+1) a b (aP l j)->KO (λn=>chP l n lv a b x j nt) r->KO (λn=>ex l n lv a b i nt) r
 s5:lv=5->∀nt r,Stp 6 a b (aP l j)->KO (λn=>inP l n a x j nt) r->KO (λn=>ex l n 5 a b i nt) r
structure Fst(l:List Tk)(i:Nat)(L:Nat):Prop where
 bg:bgE (aP l i)
 una:12<=L->aP l i≠55/\aP l i≠56/\aP l i≠61
 step:14<=L->isStep (aP l i)=false
 dol:15<=L->aP l i≠68
 nc:6<=L->aP l i=32->ahead (l.drop i) 0=false
variable {l:List Tk} {x:Xp} {i j:Nat} {a b:Bool}
def aFc{lv:Nat}{n:Nat}{nt:jf}(h:Stp lv a b (aP l j)):chP l (n+1) lv a b x j nt=.ok x j nt:=by rw[chP,awl h,aQ]
def aFd{lv:Nat}{n:Nat}{nt:jf}(h:Stp lv a b (aP l j))(hl:lv<=5):inP l (n+1) a x j nt=.ok x j nt:=by
 rw[inP];have:(aP l j==24 && !a)=false:=by
  cases a with
  |true=>rw[zaP,Bool.and_false]
  |false=>rw[mX.2 (h.in_ hl rfl),Bool.false_and]
 rw[this,aQ]
def aAM{lv:Nat}{nt:jf}(h:Stp lv a b (aP l j)):KO (λn=>chP l n lv a b x j nt) (.ok x j nt):=iF (bK (iD _) λn=>aFc h)
def auE{lv:Nat}{nt:jf}(h:Stp lv a b (aP l j))(hl:lv<=5):KO (λn=>inP l n a x j nt) (.ok x j nt):=iF (bK (iD _) λn=>aFd h hl)
def aAN{lv:Nat}(hc:chain lv)(n:Nat)(i:Nat)(nt:jf):ex l (n+1) lv a b i nt=(ex l n (lv+1) a b i nt).bind λx i nt=>chP l n lv a b x i nt:=by rcases hc with rfl|rfl|rfl|rfl|rfl<;>rw[ex]
def aAO{lv:Nat}(hc:chain lv)(h:Rl l x i j a b (lv+1)):Rl l x i j a b lv:=by
 have key:∀nt r,Stp (lv+1) a b (aP l j)->KO (λn=>chP l n lv a b x j nt) r->KO (λn=>ex l n lv a b i nt) r:=λnt r hs hr=>iF (bK (fO (h.s1 nt hs) hr) λn=>aAN hc n i nt)
 refine⟨λnt hs=>key nt _ (hs.mono ak) (aAM hs),λ_=>key,λe=> ?_⟩;unfold chain at hc;omega
def aAP(hf:Fst l i 6):((aP l i==32 && !a) && ahead (l.drop i) 0)=false:=by
 by_cases h:aP l i=32
 ·rw[hf.nc (zaQ _) h,Bool.and_false]
 ·rw[mX.2 h,Bool.false_and,Bool.false_and]
def down{L lv:Nat}(hf:Fst l i L)(hl:lv<L)(h1:1<=lv)(h15:L<=15)(h:Rl l x i j a b (lv+1)):Rl l x i j a b lv:=by
 by_cases hc:chain lv
 ·exact aAO hc h
 have hlv:lv=1\/lv=2\/lv=5\/lv=6\/lv=7\/lv=11\/lv=12\/lv=13\/lv=14:=by unfold chain at hc;omega
 have aFe:chain lv->∀nt r,Stp (lv+1) a b (aP l j)->KO (λn=>chP l n lv a b x j nt) r->KO (λn=>ex l n lv a b i nt) r:=λe=>absurd e hc
 have mk:(∀nt,Stp lv a b (aP l j)->KO (λn=>ex l n lv a b i nt) (.ok x j nt))->(lv=5->∀nt r,Stp 6 a b (aP l j)->KO (λn=>inP l n a x j nt) r->KO (λn=>ex l n 5 a b i nt) r)->Rl l x i j a b lv:=λh1 h5=>⟨h1,aFe,h5⟩
 rcases hlv with rfl|rfl|rfl|rfl|rfl|rfl|rfl|rfl|rfl
 ·refine mk (λnt hs=>iF (bK (fO (g:=λn x i nt=>bif tgt x && Sr (aP l i) then(ex l n 1 a b (i+1) nt).bind λy j nt=> .ok (.mk 15 (aP l i) [] [] [x.1,y.1],false) j nt else .ok x i nt) (h.s1 nt (hs.mono ak)) (bK (iD _) λn=> ?_)) λn=>by rw[ex])) λe=>by omega
  rw[hs.asg (zaQ _),Bool.and_false,aQ]
 ·refine mk (λnt hs=>iF (bK (fO (g:=λn x i nt=>bif aP l i==65 then(ex l n 2 a b (i+1) nt).bind λy i nt=>(lU l 66 i nt).bind λ_ i nt=>(ex l n 2 a b i nt).bind λz i nt=>.ok (.mk 14 0 [] [] [x.1,y.1,z.1],false) i nt else .ok x i nt) (h.s1 nt (hs.mono ak)) (bK (iD _) λn=> ?_)) λn=>by rw[ex])) λe=>by omega
  rw[mX.2 (hs.cond (zaQ _)),aQ]
 ·have hm:=aAP (a:=a) ⟨hf.bg,λe=>by omega,λe=>by omega,λe=>by omega,λ_=>hf.nc ak⟩;have key:∀nt r,Stp 6 a b (aP l j)->KO (λn=>inP l n a x j nt) r->KO (λn=>ex l n 5 a b i nt) r:=λnt r hs hr=>iF (bK (fO (g:=λn x i nt=>inP l n a x i nt) (h.s1 nt hs) hr) λn=>by rw[ex,hm,aQ])
  exact mk (λnt hs=>key nt _ (hs.mono ak) (auE hs (zaQ _))) λ_=>key
 ·refine mk (λnt hs=>iF (bK (fO (g:=λn x i nt=>bif aP l i==67||aP l i==46 then(ex l n 7 a b (i+1) nt).bind λy j nt=> .ok (.mk 12 (aP l i) [] [] [x.1,y.1],false) j nt else .ok x i nt) (h.s1 nt (hs.mono ak)) (bK (iD _) λn=> ?_)) λn=>by rw[ex])) λe=>by omega
  have h6:=aAL hs (zaQ _) (by decide);have e1:aP l j≠67:=λe=>h6 (by rw[e];rfl)
  have e2:aP l j≠46:=λe=>h6 (by rw[e];rfl)
  rw[mX.2 e1,mX.2 e2,Bool.or_self,aQ]
 ·refine mk (λnt hs=>iF (bK (fO (g:=λn x i nt=>bif Gz 7 b (aP l i) then(ex l n 8 a b (i+1) nt).bind λy j nt=> .ok (.mk 12 (aP l i) [] [] [x.1,y.1],false) j nt else .ok x i nt) (h.s1 nt (hs.mono ak)) (bK (iD _) λn=> ?_)) λn=>by rw[ex])) λe=>by omega
  have:=awl hs;rw[show Nat.beq 7 7=true from rfl,Bool.and_true] at this;rw[this,aQ]
 ·refine mk (λnt hs=>iF (bK (h.s1 nt (hs.mono ak)) λn=> ?_)) λe=>by omega
  have hu:=hf.una ak;rw[ex,mX.2 hu.1,mX.2 hu.2.1,mX.2 hu.2.2,Bool.or_self,Bool.or_self,aQ]
 ·refine mk (λnt hs=>iF (bK (fO (g:=λn x i nt=>bif aP l i==60 then(ex l n 11 a b (i+1) nt).bind λy j nt=> .ok (.mk 12 60 [] [] [x.1,y.1],false) j nt else .ok x i nt) (h.s1 nt (hs.mono ak)) (bK (iD _) λn=> ?_)) λn=>by rw[ex])) λe=>by omega
  have h6:=aAL hs (zaQ _) (by decide);have e1:aP l j≠60:=λe=>h6 (by rw[e];rfl)
  rw[mX.2 e1,aQ]
 ·refine mk (λnt hs=>iF (bK (fO (g:=λn x i nt=>bif tgt x && isStep (aP l i) then .ok (.mk 10 (aP l i) [] [] [x.1],false) (i+1) nt else .ok x i nt) (h.s1 nt (hs.mono ak)) (bK (iD _) λn=> ?_)) λn=>by rw[ex,hf.step ak,aQ])) λe=>by omega
  rw[hs.step (zaQ _),Bool.and_false,aQ]
 ·refine mk (λnt hs=>iF (bK (h.s1 nt (hs.mono ak)) λn=> ?_)) λe=>by omega
  rw[ex,mX.2 (hf.dol ak),aQ]
def aGX{L:Nat}(hf:Fst l i L)(h15:L<=15)(h:Rl l x i j a b L):∀d lv,L - lv=d->1<=lv->lv<=L->Rl l x i j a b lv
 |0,lv,hd,_,hl=>by obtain rfl:lv=L:=ak;exact h
 |d+1,lv,hd,h1,hl=>down hf ak h1 h15 (aGX hf h15 h d (lv+1) ak ak ak)
end Go.Proofs.YtephpnbbbimjbaaGreatDoor
namespace Go.Proofs.YtephpnbbbimjbaaGreatDoor
open Go Go.Vm
inductive Tg where
 |dv (h:Bool) (t:Tn) (p:Ps)
 |nv (t:Tn) (p:Ps)
 |ls (ks:List Tn)
inductive Dx(l:List Tk):Tg->Nat->Nat->Prop where
 |par {h:Bool} {t:Tn} {p:Ps} {i j:Nat}:aP l i=32->Dx l (.dv h t .top) (i+1) j->aP l j=33->Dx l (.dv true t p) i (j+1)
 |node {t:Tn} {p:Ps} {i j:Nat}:fits t.kind t.op p=true->Dx l (.nv t p) i j->Dx l (.dv false t p) i j
 |one {h:Bool} {t:Tn} {i j:Nat}:Dx l (.dv h t .top) i j->Dx l (.ls [t]) i j
 |cons {h:Bool} {t:Tn} {ks:List Tn} {i j j' m:Nat}:Dx l (.dv h t .top) i j->aP l j=36->pst l (j+1) j'->Dx l (.ls ks) j' m->Dx l (.ls (t::ks)) i m
 |name {p:Ps} {i:Nat}:aP l i=6->Dx l (.nv (.mk 1 0 (Bv l i) [] []) p) i (i+1)
 |leaf {k:Int} {p:Ps} {i:Nat}:k=2\/k=3\/k=4->aP l i=k+1->Dx l (.nv (.mk k 0 (Bv l i) [] []) p) i (i+1)
 |index {ks:List Tn} {p:Ps} {i j:Nat}:aP l i=6->aP l (i+1)=34->Dx l (.ls ks) (i+2) j->ks.length<=6->aP l j=35->Dx l (.nv (.mk 5 0 (Bv l i) [] ks) p) i (j+1)
 |call {k:Int} {ks:List Tn} {p:Ps} {i j:Nat}:k=7\/k=8->aP l i=k->aP l (i+1)=32->Dx l (.ls ks) (i+2) j->ks.length<=6->aP l j=33->Dx l (.nv (.mk k 0 (Bv l i) [] ks) p) i (j+1)
 |aAQ {k:Int} {p:Ps} {i:Nat}:k=7\/k=8->aP l i=k->aP l (i+1)=32->aP l (i+2)=33->Dx l (.nv (.mk k 0 (Bv l i) [] []) p) i (i+3)
 |len {p:Ps} {i:Nat}:aP l i=8->Bv l i=[108,101,110,103,116,104]->aP l (i+1)≠32->Dx l (.nv (.mk 8 0 (Bv l i) [] []) p) i (i+1)
 |field {h:Bool} {u:Tn} {p:Ps} {i j:Nat}:aP l i=68->Dx l (.dv h u (aU 6 0 1 0 p)) (i+1) j->Dx l (.nv (.mk 6 0 [] [] [u]) p) i j
 |pre {u:Tn} {p:Ps} {i j:Nat}:isStep (aP l i)=true->SN u.kind=true->Dx l (.nv u (aU 9 (aP l i) 1 0 p)) (i+1) j->Dx l (.nv (.mk 9 (aP l i) [] [] [u]) p) i j
 |post {u:Tn} {p:Ps} {i j:Nat}:isStep (aP l j)=true->SN u.kind=true->Dx l (.nv u (aU 10 (aP l j) 1 0 p)) i j->Dx l (.nv (.mk 10 (aP l j) [] [] [u]) p) i (j+1)
 |una {h:Bool} {u:Tn} {p:Ps} {i j:Nat}:aP l i=55\/aP l i=56\/aP l i=61->Dx l (.dv h u (aU 11 (aP l i) 1 0 p)) (i+1) j->Dx l (.nv (.mk 11 (aP l i) [] [] [u]) p) i j
 |in1 {h:Bool} {u:Tn} {p:Ps} {i j:Nat}:Dx l (.dv h u (aU 13 0 1 0 p)) i j->aP l j=24->aP l (j+1)=6->Dx l (.nv (.mk 13 0 (Bv l (j+1)) [] [u]) p) i (j+2)
 |inN {ks:List Tn} {p:Ps} {i j:Nat}:aP l i=32->Dx l (.ls ks) (i+1) j->2<=ks.length->ks.length<=6->aP l j=33->aP l (j+1)=24->aP l (j+2)=6->Dx l (.nv (.mk 13 0 (Bv l (j+2)) [] ks) p) i (j+3)
 |cond {hu hv hw:Bool} {u v w:Tn} {p:Ps} {i j m e:Nat}:Dx l (.dv hu u (aU 14 0 3 0 p)) i j->aP l j=65->Dx l (.dv hv v (aU 14 0 3 1 p)) (j+1) m->aP l m=66->Dx l (.dv hw w (aU 14 0 3 2 p)) (m+1) e->Dx l (.nv (.mk 14 0 [] [] [u,v,w]) p) i e
 |asg {hv:Bool} {u v:Tn} {p:Ps} {i j m:Nat}:SN u.kind=true->Dx l (.nv u (aU 15 (aP l j) 2 0 p)) i j->Sr (aP l j)=true->Dx l (.dv hv v (aU 15 (aP l j) 2 1 p)) (j+1) m->Dx l (.nv (.mk 15 (aP l j) [] [] [u,v]) p) i m
 |bin {hu hv:Bool} {u v:Tn} {p:Ps} {i j j' m:Nat}:iT (aP l j)≠0->aP l j≠99->Dx l (.dv hu u (aU 12 (aP l j) 2 0 p)) i j->(if aP l j=44\/aP l j=45 then pst l (j+1) j' else j'=j+1)->Dx l (.dv hv v (aU 12 (aP l j) 2 1 p)) j' m->Dx l (.nv (.mk 12 (aP l j) [] [] [u,v]) p) i m
 |cat {hu hv:Bool} {u v:Tn} {p:Ps} {i j m:Nat}:Dx l (.dv hu u (aU 12 99 2 0 p)) i j->Dx l (.dv hv v (aU 12 99 2 1 p)) j m->Dx l (.nv (.mk 12 99 [] [] [u,v]) p) i m
variable {l:List Tk}
def X4(h:Bool)(t:Tn):Nat:=bif h then 15 else(lvl t.kind t.op).toNat
structure Rd(l:List Tk)(h:Bool)(t:Tn)(p:Ps)(i j:Nat):Prop where
 fst:Fst l i (X4 h t)
 scan:∀d:Int,1<=d->ahead (l.drop i) d=ahead (l.drop j) d
 sign:p.ng=true->agZ (aP l i)=true
 lv:h=false->SN t.kind=true->aP l i=6\/aP l i=68
 rd:∀a b,(a=p.Ad/\b=p.Du)\/13<=X4 h t->Rl l (t,h) i j a b (X4 h t)
 pre:h=false->t.kind=9->isStep (aP l i)=true/\∀nt,aP l j≠34->KO (λn=>afK l n i nt) (.ok (t,false) j nt)
 lvl:1<=X4 h t/\X4 h t<=15
structure Rs(l:List Tk)(ks:List Tn)(i j:Nat):Prop where
 ne:1<=ks.length
 bg:bgE (aP l i)
 scan:∀d:Int,2<=d->ahead (l.drop i) d=ahead (l.drop j) d
 two:2<=ks.length->ahead (l.drop i) 1=true
 rd:∀(L:List Tn) nt,L.length+ks.length<=6->Stp 1 false false (aP l j)->aP l j≠36->KO (λn=>WO l n false false L i nt) (.ok (L++ks) j nt)
def Rd.at{h:Bool}{t:Tn}{p:Ps}{i j:Nat}(r:Rd l h t p i j){a b:Bool}(hab:(a=p.Ad/\b=p.Du)\/13<=X4 h t){lv:Nat}(h1:1<=lv)(hl:lv<=X4 h t):Rl l (t,h) i j a b lv:=
 aGX r.fst r.lvl.2 (r.rd a b hab) _ lv rfl h1 hl
def XO(k:Int)(h:k=33\/k=35\/k=36\/k=66)(lv:Nat)(h3:1<=lv)(a b:Bool):Stp lv a b k:=by
 have h0:iT k=0:=by rcases h with h|h|h|h<;>subst h<;>rfl
 refine⟨λ_=> ?_,λ_=>by omega,λm hm e=>by omega,λ_ _=>by omega,λ_=> ?_,λ_=> ?_,ak⟩
 all_goals rcases h with h|h|h|h<;>subst h<;>rfl
end Go.Proofs.YtephpnbbbimjbaaGreatDoor
namespace Go.Proofs.YtephpnbbbimjbaaGreatDoor
open Go Go.Vm
variable {l:List Tk}
structure Fl(k op:Int)(p:Ps):Prop where
 in_:p.Ad=true->k≠13
 gt:p.Du=true->¬(k=12/\op=62)
 sign:p.ng=true->k≠4/\k≠9/\k≠11
def aFf{k op:Int}{p:Ps}(h:fits k op p=true):Fl k op p/\(p.level<=lvl k op\/(p.yQ=true/\k=9)):=by
 unfold fits at h;cases h1:(!(jL p)||lvl k op==0) with
 |true=>rw[h1] at h;cases h
 |false=>
 rw[h1,aQ] at h;cases h2:(p.Ad && k==13) with
 |true=>rw[h2] at h;cases h
 |false=>
 rw[h2,aQ] at h;cases h3:(p.Du &&(k==12 && op==62)) with
 |true=>rw[h3] at h;cases h
 |false=>
 rw[h3,aQ] at h;cases h4:(p.ng &&(k==11||(k==9||k==4))) with
 |true=>rw[h4] at h;cases h
 |false=>
 rw[h4,aQ] at h;refine⟨⟨λe=> ?_,λe=> ?_,λe=> ?_⟩, ?_⟩
 ·rw[e,Bool.true_and,mX] at h2;exact h2
 ·rw[e,Bool.true_and,Bool.and_eq_false_iff,mX,mX] at h3;omega
 ·rw[e,Bool.true_and,Bool.or_eq_false_iff,Bool.or_eq_false_iff,mX,mX,mX] at h4;exact⟨h4.2.2,h4.2.1,h4.1⟩
 ·rw[Bool.or_eq_true,rZ,decide_eq_true_eq,beq_iff_eq] at h;exact h.symm
def aAR{k op:Int}{p:Ps}(h:SN k=true):Fl k op p:=by unfold SN at h;simp only[Bool.or_eq_true,beq_iff_eq] at h;exact⟨λ_=>by omega,λ_=>by omega,λ_=>by omega⟩
def abk{k op:Int}{n j:Nat}{p:Ps}(hp:jL p=true)(hj:j<n)(h0:lvl k op≠0)(h15:lvl k op≠15)(hm:k=13->n<=1):
  aU k op n j p=⟨abe k op j,k==6,p.Ad,p.Du,bif k==11||(k==9||(k==10||k==6)) then false else(Nat.beq j 0 && p.ng)||(Nat.beq j 1 &&(k==12 && op==99))⟩:=by
 have h1:Nat.blt j n=true:=by rw[Nat.blt_eq];exact hj
 have h2:(k==13 && Nat.blt 1 n)=false:=by
  rw[Bool.and_eq_false_iff,mX]
  by_cases h:k=13
  ·right;have:=hm h;cases hq:Nat.blt 1 n with
   |false=>rfl
   |true=>rw[Nat.blt_eq] at hq;omega
  ·exact .inl h
 unfold aU;rw[hp,h1,mX.2 h0,mX.2 h15,h2];rfl
def aGY(t:Tn):X4 false t=(Go.Proofs.YtephpnbbbimjbaaGreatDoor.lvl t.kind t.op).toNat:=rfl
def aAS(t:Tn):X4 true t=15:=rfl
def XP{x:Xp}{i j:Nat}{a b:Bool}{lv:Nat}(hc:¬chain lv)(h5:lv≠5)(h:∀nt,Stp lv a b (aP l j)->KO (λn=>ex l n lv a b i nt) (.ok x j nt)):Rl l x i j a b lv:=⟨h,λe=>absurd e hc,λe=>absurd e h5⟩
def auF(n:Nat)(a b:Bool)(i:Nat)(nt:jf):ex l (n+1) 15 a b i nt=bif aP l i==3 then XL 2 l i nt else bif aP l i==4 then XL 3 l i nt else bif aP l i==5 then XL 4 l i nt else
   bif aP l i==6 then
    (bif aP l (i+1)==34 then(WO l n false false [] (i+2) nt).bind λL j nt=>(lU l 35 j nt).bind λ_ j nt=> .ok (.mk 5 0 (Bv l i) [] L,false) j nt
     else XL 1 l i nt) else
   bif aP l i==7||aP l i==8 then
    (bif aP l i==8 &&(Bv l i==[108,101,110,103,116,104] && !(aP l (i+1)==32)) then XL 8 l i nt else
     (lU l 32 (i+1) nt).bind λ_ j nt=>(WM l n 33 j nt).bind λL j nt=> .ok (.mk (aP l i) 0 (Bv l i) [] L,false) j nt) else
   bif aP l i==32 then(ex l n 1 false false (i+1) nt).bind λx i nt=>(lU l 33 i nt).bind λ_ i nt=> .ok (x.1,true) i nt else .bad i:=by
 rw[ex]<;>(intro h;cases h)
def afO:¬chain 15:=by unfold chain;omega
def aFg{h:Bool}{t:Tn}{i j:Nat}{a b:Bool}(hL:X4 h t=15)(k:∀nt,Stp 15 a b (aP l j)->KO (λn=>ex l n 15 a b i nt) (.ok (t,h) j nt)):Rl l (t,h) i j a b (X4 h t):=by rw[hL];exact XP afO (by decide) k
def aJD{h:Bool}{t:Tn}(hL:X4 h t=15):1<=X4 h t/\X4 h t<=15:=by rw[hL];omega
def aAT:¬chain 14:=by unfold chain;omega
def asi:¬chain 13:=by unfold chain;omega
def ag3{i:Nat}{L:Nat}(h:aP l i=6\/aP l i=3\/aP l i=4\/aP l i=5\/aP l i=7\/aP l i=8):Fst l i L:=by refine⟨by unfold bgE;omega,λ_=>by omega,λ_=> ?_,λ_=>by omega,λ_ e=>by omega⟩;rcases h with h|h|h|h|h|h<;>rw[h]<;>rfl
def YH{k:Int}{j:Nat}{nt:jf}(h:aP l j=k):KO (λ_=>lU l k j nt) (.ok () (j+1) nt):=by
 refine bK (iD _) λn=> ?_
 unfold lU;rw[h,show(k==k)=true by simp,aG]
def awm{j:Nat}{nt:jf}(h:aP l j=6):KO (λ_=>nameP l j nt) (.ok (Bv l j) (j+1) nt):=by
 refine bK (iD _) λn=> ?_
 unfold nameP;rw[h];rfl
def aAU{ks:List Tn}{i j:Nat}(h:Rs l ks i j)(h6:ks.length<=6)(hk:aP l j=33)(nt:jf):KO (λn=>WM l n 33 i nt) (.ok ks (j+1) nt):=by
 have hb:aP l i≠33:=by have:=h.bg;unfold bgE at this;omega
 have:=h.rd [] nt (by simpa using h6) (XO _ ak 1 (zaQ _) _ _) ak;rw[List.nil_append] at this;exact iF (bK (fO (g:=λn L i nt=>(lU l 33 i nt).bind λ_ i nt=> .ok L i nt) this (fO (g:=λn _ i nt=> .ok ks i nt) (YH hk) (iD _))) λn=>by rw[WM,mX.2 hb,aQ])
section
variable {p:Ps} (hp:jL p=true)
include hp
theorem aFh{i:Nat}(hk:aP l i=6):Rd l false (.mk 1 0 (Bv l i) [] []) p i (i+1) where
 fst:=ag3 ak
 scan:=λd hd=>qj (by unfold ntr;omega) hd
 sign:=λ_=>by rw[hk];rfl
 lv:=λ_ _=> .inl hk
 rd:=λa b _=>aFg rfl λnt hs=>iF (bK (iD _) λn=>by rw[auF,hk];simp only[Int.reduceBEq,aQ,aG];rw[mX.2 hs.brk,aQ];rfl)
 pre:=λ_ e=>absurd e (by show(1:Int)≠9;decide)
 lvl:=aJD rfl
theorem aFi{k:Int}{i:Nat}(h3:k=2\/k=3\/k=4)(hk:aP l i=k+1)(hf:Fl k 0 p):Rd l false (.mk k 0 (Bv l i) [] []) p i (i+1):=by
 have hL:X4 false (.mk k 0 (Bv l i) [] [])=15:=by rcases h3 with h|h|h<;>subst h<;>rfl
 refine⟨ag3 ak,λd hd=>qj (by unfold ntr;omega) hd,λe=> ?_,λ_ e=> ?_,λa b _=> ?_,λ_ e=>absurd (show k=9 from e) ak,by rw[hL];omega⟩
 ·have:=(hf.sign e).1;rw[hk];rcases h3 with h|h|h
  ·subst h;rfl
  ·subst h;rfl
  ·exact absurd h this
 ·rcases h3 with h|h|h<;>subst h<;>cases e
 ·rw[hL];refine XP afO (by decide) λnt hs=>iF (bK (iD _) λn=> ?_)
  rw[auF,hk];rcases h3 with h|h|h<;>subst h<;>rfl
theorem aAV{ks:List Tn}{i j:Nat}(hk:aP l i=6)(ho:aP l (i+1)=34)(hs:Rs l ks (i+2) j)(h6:ks.length<=6)(hc:aP l j=35):Rd l false (.mk 5 0 (Bv l i) [] ks) p i (j+1) where
 fst:=ag3 ak
 scan:=λd hd=>by rw[qj (by unfold ntr;omega) hd,Nk (.inr ho),hs.scan _ ak,Vq (.inr hc) ak,show d+1 - 1=d by omega]
 sign:=λ_=>by rw[hk];rfl
 lv:=λ_ _=> .inl hk
 rd:=λa b _=>aFg rfl λnt hst=>by have:=hs.rd [] nt (by simpa using h6) (XO _ ak 1 (zaQ _) _ _) ak;rw[List.nil_append] at this;refine iF (bK (fO (g:=λn L j nt=>(lU l 35 j nt).bind λ_ j nt=> .ok ((Tn.mk 5 0 (Bv l i) [] L,false):Xp) j nt) this (fO (g:=λn _ j nt=> .ok ((Tn.mk 5 0 (Bv l i) [] ks,false):Xp) j nt) (YH hc) (iD _))) λn=> ?_);rw[auF,hk,ho];rfl
 pre:=λ_ e=>absurd e (by show(5:Int)≠9;decide)
 lvl:=aJD rfl
theorem aFj{k:Int}{ks:List Tn}{i j:Nat}(h7:k=7\/k=8)(hk:aP l i=k)(ho:aP l (i+1)=32)(hs:Rs l ks (i+2) j)(h6:ks.length<=6)(hc:aP l j=33):Rd l false (.mk k 0 (Bv l i) [] ks) p i (j+1):=by
 have hL:X4 false (.mk k 0 (Bv l i) [] ks)=15:=by rcases h7 with h|h<;>subst h<;>rfl
 refine⟨ag3 ak,λd hd=> ?_,λ_=> ?_,λ_ e=> ?_,λa b _=> ?_,λ_ e=>absurd (show k=9 from e) ak,by rw[hL];omega⟩
 ·rw[qj (by unfold ntr;omega) hd,Nk (.inl ho),hs.scan _ ak,Vq (.inl hc) ak,show d+1 - 1=d by omega]
 ·rw[hk];rcases h7 with h|h<;>subst h<;>rfl
 ·rcases h7 with h|h<;>subst h<;>cases e
 ·rw[hL];refine XP afO (by decide) λnt hst=> ?_
  refine iF (bK (fO (g:=λn _ j nt=>(WM l n 33 j nt).bind λL j nt=> .ok ((Tn.mk k 0 (Bv l i) [] L,false):Xp) j nt) (YH (nt:=nt) ho) (fO (g:=λn L j nt=> .ok ((Tn.mk k 0 (Bv l i) [] L,false):Xp) j nt) (aAU hs h6 hc nt) (iD _))) λn=> ?_);rw[auF,hk,ho];rcases h7 with h|h<;>subst h<;>simp only[Int.reduceBEq,aQ,aG,Bool.or_true,Bool.or_false,zaP,Bool.and_false,Bool.false_and]
theorem aAW{k:Int}{i:Nat}(h7:k=7\/k=8)(hk:aP l i=k)(ho:aP l (i+1)=32)(hc:aP l (i+2)=33):Rd l false (.mk k 0 (Bv l i) [] []) p i (i+3):=by
 have hL:X4 false (.mk k 0 (Bv l i) [] [])=15:=by rcases h7 with h|h<;>subst h<;>rfl
 refine⟨ag3 ak,λd hd=> ?_,λ_=> ?_,λ_ e=> ?_,λa b _=> ?_,λ_ e=>absurd (show k=9 from e) ak,by rw[hL];omega⟩
 ·rw[qj (by unfold ntr;omega) hd,Nk (.inl ho),Vq (.inl hc) ak,show d+1 - 1=d by omega]
 ·rw[hk];rcases h7 with h|h<;>subst h<;>rfl
 ·rcases h7 with h|h<;>subst h<;>cases e
 ·rw[hL];refine XP afO (by decide) λnt hst=> ?_
  have hl:KO (λn=>WM l n 33 (i+1+1) nt) (.ok [] (i+3) nt):=iF (bK (iD _) λn=>by rw[WM,hc];rfl);refine iF (bK (fO (g:=λn _ j nt=>(WM l n 33 j nt).bind λL j nt=> .ok ((Tn.mk k 0 (Bv l i) [] L,false):Xp) j nt) (YH (nt:=nt) ho) (fO (g:=λn L j nt=> .ok ((Tn.mk k 0 (Bv l i) [] L,false):Xp) j nt) hl (iD _))) λn=> ?_);rw[auF,hk,ho];rcases h7 with h|h<;>subst h<;>simp only[Int.reduceBEq,aQ,aG,Bool.or_true,Bool.or_false,zaP,Bool.and_false,Bool.false_and]
theorem aJE{i:Nat}(hk:aP l i=8)(hx:Bv l i=[108,101,110,103,116,104])(ho:aP l (i+1)≠32):Rd l false (.mk 8 0 (Bv l i) [] []) p i (i+1) where
 fst:=ag3 ak
 scan:=λd hd=>qj (by unfold ntr;omega) hd
 sign:=λ_=>by rw[hk];rfl
 lv:=λ_ e=>by cases e
 rd:=λa b _=>aFg rfl λnt hs=>iF (bK (iD _) λn=>by rw[auF,hk,mX.2 ho,hx];simp[XL,hx])
 pre:=λ_ e=>absurd e (by show(8:Int)≠9;decide)
 lvl:=aJD rfl
theorem aJF{h:Bool}{t:Tn}{i j:Nat}(ho:aP l i=32)(hr:Rd l h t .top (i+1) j)(hc:aP l j=33):Rd l true t p i (j+1) where
 fst:=⟨by unfold bgE;omega,λ_=>by omega,λ_=>by rw[ho];rfl,λ_=>by omega,λ_ _=>by rw[Nk (.inl ho),hr.scan _ ak];exact ash hc⟩
 scan:=λd hd=>by rw[Nk (.inl ho),hr.scan _ ak,Vq (.inl hc) ak,show d+1 - 1=d by omega]
 sign:=λ_=>by rw[ho];rfl
 lv:=λe=>by cases e
 rd:=λa b _=>aFg rfl λnt hs=>by have h1:=(hr.at (.inl ⟨rfl,rfl⟩) (zaQ 1) hr.lvl.1).s1 nt (XO _ ak 1 (zaQ _) _ _);refine iF (bK (fO (g:=λn x j nt=>(lU l 33 j nt).bind λ_ j nt=> .ok ((x.1,true):Xp) j nt) h1 (fO (g:=λn _ j nt=> .ok ((t,true):Xp) j nt) (YH hc) (iD _))) λn=> ?_);rw[auF,ho];rfl
 pre:=λe=>by cases e
 lvl:=⟨by rw[aAS];omega,by rw[aAS];omega⟩
end
end Go.Proofs.YtephpnbbbimjbaaGreatDoor
namespace Go.Proofs.YtephpnbbbimjbaaGreatDoor
open Go Go.Vm
variable {l:List Tk}
def aJG{k op:Int}{x y:aC}{ks:List Tn}{L:Nat}(h:lvl k op=(L:Int)):X4 false (.mk k op x y ks)=L:=by show(lvl k op).toNat=L;rw[h,Zt]
def asj{i:Nat}(h:isStep (aP l i)=true):aP l i=51\/aP l i=52:=by unfold isStep at h;rw[Bool.or_eq_true,beq_iff_eq,beq_iff_eq] at h;exact h
def auG{t:Tn}(h:SN t.kind=true):14<=X4 false t/\X4 false t<=15:=by
 unfold SN at h;simp only[Bool.or_eq_true,beq_iff_eq] at h;rw[aGY];have:lvl t.kind t.op=15\/lvl t.kind t.op=14:=by
  rcases h with h|h|h<;>rw[h]
  ·exact .inl rfl
  ·exact .inl rfl
  ·exact .inr rfl
 omega
def ag4(h:Bool)(t:Tn)(p:Ps):Prop:=p.level<=(X4 h t:Int)\/(p.yQ=true/\t.kind=9/\h=false)
section
variable {p:Ps} (hp:jL p=true)
include hp
theorem aAX{h:Bool}{u:Tn}{i j:Nat}(hk:aP l i=68)(hr:Rd l h u (aU 6 0 1 0 p) (i+1) j)(hv:ag4 h u (aU 6 0 1 0 p)):Rd l false (.mk 6 0 [] [] [u]) p i j:=by
 have hL:X4 false (.mk 6 0 [] [] [u])=14:=rfl;have hq:(aU 6 0 1 0 p).level=14:=by rw[abk hp ak (by decide) (by decide) (λe=>by omega)];rfl
 refine⟨⟨by unfold bgE;omega,λ_=>by omega,λ_=>by rw[hk];rfl,λe=>absurd e (by rw[hL];omega),λ_ e=>by omega⟩,λd hd=> ?_,λ_=>by rw[hk];rfl,λ_ _=> .inr hk,λa b _=> ?_,λ_ e=>absurd e (by show(6:Int)≠9;decide),by rw[hL];omega⟩
 ·rw[qj (by unfold ntr;omega) hd];exact hr.scan d hd
 ·rw[hL];refine XP aAT (by decide) λnt hs=> ?_
  have key:KO (λn=>bif isStep (aP l (i+1)) then afK l n (i+1) nt else ex l n 14 a b (i+1) nt) (.ok (u,h) j nt):=by
   rcases hv with hv|⟨_,h9,hf⟩
   ·have h14:14<=X4 h u:=ak;rw[hr.fst.step h14];exact(hr.at (.inr ak) ak h14).s1 nt hs
   ·have hpre:=hr.pre hf h9;subst hf;rw[hpre.1];exact hpre.2 nt hs.brk
  refine iF (bK (fO (g:=λn x i nt=> .ok ((Tn.mk 6 0 [] [] [x.1],false):Xp) i nt) key (iD _)) λn=> ?_);rw[ex,hk];rfl
theorem aJH{u:Tn}{i j:Nat}(hk:isStep (aP l i)=true)(hl:SN u.kind=true)(hr:Rd l false u (aU 9 (aP l i) 1 0 p) (i+1) j)(hf:Fl 9 (aP l i) p):Rd l false (.mk 9 (aP l i) [] [] [u]) p i j:=by
 have hL:X4 false (.mk 9 (aP l i) [] [] [u])=13:=rfl;have h14:=auG hl;have hks:=asj hk;have hpre:∀nt,aP l j≠34->KO (λn=>afK l n i nt) (.ok (.mk 9 (aP l i) [] [] [u],false) j nt):=λnt h34=>by
  have hst:Stp 14 false false (aP l j):=⟨λe=>by omega,λe=>by omega,λm hm e=>(by have:=(SA (aP l j)).2;omega),λe=>by omega,λe=>by omega,λe=>by omega,h34⟩
  have h1:=(hr.at (a:=false) (b:=false) (.inr ak) ak h14.1).s1 nt hst;have hn:=hr.lv rfl hl;have hc:(aP l (i+1)==68||aP l (i+1)==6)=true:=by rw[Bool.or_eq_true,beq_iff_eq,beq_iff_eq];omega
  exact iF (bK (fO (g:=λn x j nt=> .ok ((Tn.mk 9 (aP l i) [] [] [x.1],false):Xp) j nt) h1 (iD _)) λn=>by rw[afK,hc,aG])
 refine⟨⟨by unfold bgE;omega,λ_=>by omega,λe=>absurd e (by rw[hL];omega),λe=>absurd e (by rw[hL];omega),λ_ e=>by omega⟩,λd hd=> ?_,λe=>absurd rfl (hf.sign e).2.1,λ_ e=>(by cases e),λa b _=> ?_,λ_ _=>⟨hk,hpre⟩,by rw[hL];omega⟩
 ·rw[qj (by unfold ntr;omega) hd];exact hr.scan d hd
 ·rw[hL];refine XP asi (by decide) λnt hs=>iF (bK (hpre nt hs.brk) λn=> ?_)
  rw[ex,hk,aG]
theorem aFk{u:Tn}{i j:Nat}(hk:isStep (aP l j)=true)(hl:SN u.kind=true)(hr:Rd l false u (aU 10 (aP l j) 1 0 p) i j):Rd l false (.mk 10 (aP l j) [] [] [u]) p i (j+1):=by
 have hL:X4 false (.mk 10 (aP l j) [] [] [u])=13:=rfl;have h14:=auG hl;have hks:=asj hk;have hn:=hr.lv rfl hl;refine⟨⟨hr.fst.bg,λ_=>by omega,λe=>absurd e (by rw[hL];omega),λe=>absurd e (by rw[hL];omega),λ_ e=>by omega⟩,λd hd=> ?_,λ_=> ?_,λ_ e=>(by cases e),λa b _=> ?_,λ_ e=>absurd e (by show(10:Int)≠9;decide),by rw[hL];omega⟩
 ·rw[hr.scan d hd,qj (by unfold ntr;omega) hd]
 ·rcases hn with h|h<;>rw[h]<;>rfl
 ·rw[hL];refine XP asi (by decide) λnt hs=> ?_
  have hst:Stp 14 a b (aP l j):=⟨λe=>by omega,λe=>by omega,λm hm e=>(by have:=(SA (aP l j)).2;omega),λe=>by omega,λe=>by omega,λe=>by omega,ak⟩
  have h1:=(hr.at (a:=a) (b:=b) (.inr ak) ak h14.1).s1 nt hst;have ht:(tgt (u,false) && isStep (aP l j))=true:=by rw[hk,Bool.and_true];unfold tgt;rw[hl];rfl
  refine iF (bK (fO (g:=λn x i nt=>bif tgt x && isStep (aP l i) then .ok ((Tn.mk 10 (aP l i) [] [] [x.1],false):Xp) (i+1) nt else .ok x i nt) h1 (bK (iD _) λn=>by rw[ht,aG])) λn=> ?_);rw[ex,hr.fst.step h14.1,aQ]
theorem aJI{h:Bool}{u:Tn}{i j:Nat}(hk:aP l i=55\/aP l i=56\/aP l i=61)(hr:Rd l h u (aU 11 (aP l i) 1 0 p) (i+1) j)(hv:ag4 h u (aU 11 (aP l i) 1 0 p))(hf:Fl 11 (aP l i) p):Rd l false (.mk 11 (aP l i) [] [] [u]) p i j:=by
 have hL:X4 false (.mk 11 (aP l i) [] [] [u])=11:=rfl;have hq:=abk (k:=11) (op:=aP l i) (n:=1) (j:=0) hp ak (by show(11:Int)≠0;decide) (by show(11:Int)≠15;decide) (λe=>by omega);rw[hq] at hr hv;have hv:11<=X4 h u:=by
  rcases hv with hv|⟨hd,_⟩
  ·have hv:(11:Int)<=(X4 h u:Int):=hv;omega
  ·cases hd
 refine⟨⟨by unfold bgE;omega,λe=>absurd e (by rw[hL];omega),λe=>absurd e (by rw[hL];omega),λe=>absurd e (by rw[hL];omega),λ_ e=>by omega⟩,λd hd=> ?_,λe=>absurd rfl (hf.sign e).2.2,λ_ e=>(by cases e),λa b hab=> ?_,λ_ e=>absurd e (by show(11:Int)≠9;decide),by rw[hL];omega⟩
 ·rw[qj (by unfold ntr;omega) hd];exact hr.scan d hd
 ·rw[hL] at hab|-;have hab:a=p.Ad/\b=p.Du:=hab.resolve_right ak;refine XP (by unfold chain;omega) (by decide) λnt hs=> ?_
  have h1:=(hr.at (a:=a) (b:=b) (.inl hab) ak hv).s1 nt hs;have hc:(aP l i==55||(aP l i==56||aP l i==61))=true:=by rw[Bool.or_eq_true,Bool.or_eq_true,beq_iff_eq,beq_iff_eq,beq_iff_eq];omega
  refine iF (bK (fO (g:=λn x j nt=> .ok ((Tn.mk 11 (aP l i) [] [] [x.1],false):Xp) j nt) h1 (iD _)) λn=> ?_);rw[ex,hc,aG]
theorem afP{i:Nat}{L K:Nat}(h:Fst l i K)(hl:L<=K):Fst l i L:=⟨h.bg,λe=>h.una ak,λe=>h.step ak,λe=>h.dol ak,λe=>h.nc ak⟩
theorem aJJ{a b:Bool}:Stp 6 a b 24:=⟨λe=>by omega,λe=>by omega,λm hm e=>(by have:iT 24=0:=rfl;omega),λe=>by omega,λ_=>rfl,λ_=>rfl,by decide⟩
theorem aJK{h:Bool}{u:Tn}{i j:Nat}(hr:Rd l h u (aU 13 0 1 0 p) i j)(hv:ag4 h u (aU 13 0 1 0 p))(h24:aP l j=24)(h6:aP l (j+1)=6)(hf:Fl 13 0 p):Rd l false (.mk 13 0 (Bv l (j+1)) [] [u]) p i (j+2):=by
 have hL:X4 false (.mk 13 0 (Bv l (j+1)) [] [u])=5:=rfl;have hq:=abk (k:=13) (op:=0) (n:=1) (j:=0) hp ak (by decide) (by decide) (λe=>by omega);rw[hq] at hr hv;have hv:5<=X4 h u:=by
  rcases hv with hv|⟨hd,_⟩
  ·have hv:(5:Int)<=(X4 h u:Int):=hv;omega
  ·cases hd
 have hni:p.Ad=false:=by
  cases hc:p.Ad with
  |false=>rfl
  |true=>exact absurd rfl (hf.in_ hc)
 refine⟨afP hp hr.fst (by rw[hL];exact hv),λd hd=> ?_,λe=> ?_,λ_ e=>(by cases e),λa b hab=> ?_,λ_ e=>absurd e (by show(13:Int)≠9;decide),by rw[hL];omega⟩
 ·rw[hr.scan d hd,qj (by unfold ntr;omega) hd,qj (by unfold ntr;omega) hd]
 ·refine hr.sign ?_;show(bif(13:Int)==11||((13:Int)==9||((13:Int)==10||(13:Int)==6)) then false else(Nat.beq 0 0 && p.ng)||(Nat.beq 0 1 &&((13:Int)==12 &&(0:Int)==99)))=true;rw[e];rfl
 ·rw[hL] at hab|-;have hab:a=p.Ad/\b=p.Du:=hab.resolve_right ak;have ha:a=false:=hab.1.trans hni;have key:∀nt r,Stp 6 a b (aP l (j+2))->KO (λn=>inP l n a (.mk 13 0 (Bv l (j+1)) [] [u],false) (j+2) nt) r->KO (λn=>ex l n 5 a b i nt) r:=λnt r hs hk=>by have h1:=(hr.at (a:=a) (b:=b) (.inl hab) ak hv).s5 rfl nt r (by rw[h24];exact aJJ hp);refine h1 (iF (bK (fO (g:=λn s i nt=>inP l n a (.mk 13 0 s [] [u],false) i nt) (awm (nt:=nt) h6) hk) λn=> ?_));rw[inP,h24,ha];rfl
  exact⟨λnt hs=>key nt _ (hs.mono ak) (auE hs (zaQ _)),λe=>by unfold chain at e;omega,λ_=>key⟩
theorem aJL{ks:List Tn}{i j:Nat}(ho:aP l i=32)(hs:Rs l ks (i+1) j)(h2:2<=ks.length)(h6:ks.length<=6)(hc:aP l j=33)(h24:aP l (j+1)=24)(hn:aP l (j+2)=6)(hf:Fl 13 0 p):Rd l false (.mk 13 0 (Bv l (j+2)) [] ks) p i (j+3):=by
 have hL:X4 false (.mk 13 0 (Bv l (j+2)) [] ks)=5:=rfl;have hni:p.Ad=false:=by
  cases hc:p.Ad with
  |false=>rfl
  |true=>exact absurd rfl (hf.in_ hc)
 refine⟨⟨by unfold bgE;omega,λe=>absurd e (by rw[hL];omega),λe=>absurd e (by rw[hL];omega),λe=>absurd e (by rw[hL];omega),λe=>absurd e (by rw[hL];omega)⟩,λd hd=> ?_,λe=>by rw[ho];rfl,λ_ e=>(by cases e),λa b hab=> ?_,λ_ e=>absurd e (by show(13:Int)≠9;decide),by rw[hL];omega⟩
 ·have hn':aP l (j+1+1)=6:=hn;rw[Nk (.inl ho),hs.scan _ ak,Vq (.inl hc) ak,show d+1 - 1=d by omega,qj (by unfold ntr;omega) hd,qj (by unfold ntr;omega) hd]
 ·rw[hL] at hab|-;have hab:a=p.Ad/\b=p.Du:=hab.resolve_right ak;have ha:a=false:=hab.1.trans hni;have hm:((aP l i==32 && !a) && ahead (l.drop i) 0)=true:=by rw[ho,ha,Nk (.inl ho),show(0:Int)+1=1 from rfl,hs.two h2];rfl
  have key:∀nt r,Stp 6 a b (aP l (j+3))->KO (λn=>inP l n a (.mk 13 0 (Bv l (j+2)) [] ks,false) (j+3) nt) r->KO (λn=>ex l n 5 a b i nt) r:=λnt r hst hk=>by refine iF (bK (fO (g:=λn L i nt=>(lU l 24 i nt).bind λ_ i nt=>(nameP l i nt).bind λs i nt=>inP l n a (.mk 13 0 s [] L,false) i nt) (aAU hs h6 hc nt) (fO (g:=λn _ i nt=>(nameP l i nt).bind λs i nt=>inP l n a (.mk 13 0 s [] ks,false) i nt) (YH h24) (fO (g:=λn s i nt=>inP l n a (.mk 13 0 s [] ks,false) i nt) (awm hn) hk))) λn=> ?_);rw[ex,hm,aG]
  exact⟨λnt hs=>key nt _ (hs.mono ak) (auE hs (zaQ _)),λe=>by unfold chain at e;omega,λ_=>key⟩
end
end Go.Proofs.YtephpnbbbimjbaaGreatDoor
namespace Go.Proofs.YtephpnbbbimjbaaGreatDoor
open Go Go.Vm
variable {l:List Tk}
def aiX{k:Int}{lv:Nat}(a b:Bool)(h1:2<=lv)(hl:lv<=3->True)(hop:iT k<(lv:Int))(h65:lv<=2->k≠65)(h24:k≠24)(hb:lv<=8->agZ k=false)(hs:isStep k=false)(h34:k≠34):Stp lv a b k:=
 ⟨λe=>by omega,h65,λm hm e=>by omega,λ_ _=>h24,hb,λ_=>hs,h34⟩
def aAY(k:Int):iT k≠11:=by unfold iT;cases(k==44)<;>cases(k==45)<;>cases(k==67||k==46)<;>cases(k==63||(k==48||(k==47||(k==50||(k==62||k==49)))))<;>cases(k==99)<;>cases(k==55||k==56)<;>cases(k==57||(k==58||k==59))<;>cases(k==60)<;>decide
def asl{k:Int}(h:iT k≠0):k=44\/k=45\/k=67\/k=46\/k=63\/k=48\/k=47\/k=50\/k=62\/k=49\/k=99\/k=55\/k=56\/k=57\/k=58\/k=59\/k=60:=by
  by_cases hc:k=44\/k=45\/k=67\/k=46\/k=63\/k=48\/k=47\/k=50\/k=62\/k=49\/k=99\/k=55\/k=56\/k=57\/k=58\/k=59\/k=60
  ·exact hc
  ·exfalso;apply h;simp only[not_or] at hc;obtain⟨h1,h2,h3,h4,h5,h6,h7,h8,h9,h10,h11,h12,h13,h14,h15,h16,h17⟩:=hc;simp only[iT,mX.2 h1,mX.2 h2,mX.2 h3,mX.2 h4,mX.2 h5,mX.2 h6,mX.2 h7,mX.2 h8,mX.2 h9,mX.2 h10,mX.2 h11,mX.2 h12,mX.2 h13,mX.2 h14,mX.2 h15,mX.2 h16,mX.2 h17,Bool.or_self,aQ]
def aAZ{k:Int}(h:iT k≠0)(h99:k≠99):k≠24/\agZ k=false/\isStep k=false/\k≠34/\ntr k:=by
 have hc:=asl h;refine⟨ak, ?_, ?_,ak,by unfold ntr;omega⟩
 ·rcases hc with h|h|h|h|h|h|h|h|h|h|h|h|h|h|h|h|h
  all_goals first
   |exact absurd h h99
   |(subst h;rfl)
 ·rcases hc with h|h|h|h|h|h|h|h|h|h|h|h|h|h|h|h|h
  all_goals first
   |exact absurd h h99
   |(subst h;rfl)
def ax4{k:Int}(h:Sr k=true):iT k=0/\k≠65/\k≠24/\agZ k=false/\isStep k=false/\k≠34/\ntr k:=by
 have hc:k=54\/k=38\/k=39\/k=40\/k=41\/k=42\/k=43:=by unfold Sr at h;rw[Bool.or_eq_true,rZ,beq_iff_eq,decide_eq_true_eq,decide_eq_true_eq] at h;omega
 refine⟨?_,ak,ak, ?_, ?_,ak,by unfold ntr;omega⟩
 all_goals rcases hc with h|h|h|h|h|h|h<;>subst h<;>rfl
def ahZ{h:Bool}{t:Tn}{p:Ps}{n:Nat}(hv:ag4 h t p)(hl:p.level=(n:Int))(hd:p.yQ=false):n<=X4 h t:=by
 rcases hv with hv|⟨hd',_⟩
 ·rw[hl] at hv;omega
 ·rw[hd] at hd';cases hd'
section
variable {p:Ps} (hp:jL p=true)
include hp
theorem aFl{hu hv hw:Bool}{u v w:Tn}{i j m e:Nat}(r1:Rd l hu u (aU 14 0 3 0 p) i j)(v1:ag4 hu u (aU 14 0 3 0 p))(k1:aP l j=65)(r2:Rd l hv v (aU 14 0 3 1 p) (j+1) m)(v2:ag4 hv v (aU 14 0 3 1 p))(k2:aP l m=66)
  (r3:Rd l hw w (aU 14 0 3 2 p) (m+1) e) (v3:ag4 hw w (aU 14 0 3 2 p)):Rd l false (.mk 14 0 [] [] [u,v,w]) p i e:=by
 have hL:X4 false (.mk 14 0 [] [] [u,v,w])=2:=rfl;have q1:=abk (k:=14) (op:=0) (n:=3) (j:=0) hp ak (by decide) (by decide) (λe=>by omega);have q2:=abk (k:=14) (op:=0) (n:=3) (j:=1) hp ak (by decide) (by decide) (λe=>by omega);have q3:=abk (k:=14) (op:=0) (n:=3) (j:=2) hp ak (by decide) (by decide) (λe=>by omega);rw[q1] at r1 v1;rw[q2] at r2 v2;rw[q3] at r3 v3;have w1:=ahZ (n:=3) v1 rfl rfl;have w2:=ahZ (n:=2) v2 rfl rfl;have w3:=ahZ (n:=2) v3 rfl rfl;refine⟨afP hp r1.fst (by rw[hL];omega),λd hd=> ?_,λe=> ?_,λ_ e=>(by cases e),λa b hab=> ?_,λ_ e=>absurd e (by show(14:Int)≠9;decide),by rw[hL];omega⟩
 ·rw[r1.scan d hd,qj (by unfold ntr;omega) hd,r2.scan d hd,qj (by unfold ntr;omega) hd,r3.scan d hd]
 ·refine r1.sign ?_;show(Nat.beq 0 0 && p.ng||(Nat.beq 0 1 &&((14:Int)==12 &&(0:Int)==99)))=true;rw[e];rfl
 ·rw[hL] at hab|-;have hab:a=p.Ad/\b=p.Du:=hab.resolve_right ak;refine XP (by unfold chain;omega) (by decide) λnt hs=> ?_
  have s1:=(r1.at (a:=a) (b:=b) (.inl hab) ak w1).s1 nt (by rw[k1];exact aiX a b ak (λ_=>trivial) (by decide) (λe=>by omega) (by decide) (λ_=>rfl) rfl (by decide));have s2:=(r2.at (a:=a) (b:=b) (.inl hab) ak w2).s1 nt (by rw[k2];exact XO _ ak _ ak _ _);have s3:=(r3.at (a:=a) (b:=b) (.inl hab) ak w3).s1 nt hs;refine iF (bK (fO (g:=λn x i nt=>bif aP l i==65 then(ex l n 2 a b (i+1) nt).bind λy i nt=>(lU l 66 i nt).bind λ_ i nt=>(ex l n 2 a b i nt).bind λz i nt=>.ok ((Tn.mk 14 0 [] [] [x.1,y.1,z.1],false):Xp) i nt else .ok x i nt) s1 ?_) λn=>by rw[ex]);have hk:(aP l j==65)=true:=by rw[k1];rfl
  refine bK (fO (g:=λn y i nt=>(lU l 66 i nt).bind λ_ i nt=>(ex l n 2 a b i nt).bind λz i nt=> .ok ((Tn.mk 14 0 [] [] [u,y.1,z.1],false):Xp) i nt) s2 ?_) λn=>by rw[hk,aG]
  refine fO (g:=λn _ i nt=>(ex l n 2 a b i nt).bind λz i nt=> .ok ((Tn.mk 14 0 [] [] [u,v,z.1],false):Xp) i nt) (YH k2) ?_;exact fO (g:=λn z i nt=> .ok ((Tn.mk 14 0 [] [] [u,v,z.1],false):Xp) i nt) s3 (iD _)
theorem aJM{hv:Bool}{u v:Tn}{i j m:Nat}(hl:SN u.kind=true)(r1:Rd l false u (aU 15 (aP l j) 2 0 p) i j)(ka:Sr (aP l j)=true)(r2:Rd l hv v (aU 15 (aP l j) 2 1 p) (j+1) m)(v2:ag4 hv v (aU 15 (aP l j) 2 1 p)):Rd l false (.mk 15 (aP l j) [] [] [u,v]) p i m:=by
 have hL:X4 false (.mk 15 (aP l j) [] [] [u,v])=1:=rfl;have q2:=abk (k:=15) (op:=aP l j) (n:=2) (j:=1) hp ak (by show(1:Int)≠0;decide) (by show(1:Int)≠15;decide) (λe=>by omega);rw[q2] at r2 v2;have w2:=ahZ (n:=1) v2 rfl rfl;have h14:=auG hl;have hn:=r1.lv rfl hl;obtain⟨a1,a2,a3,a4,a5,a6,a7⟩:=ax4 ka;refine⟨afP hp r1.fst (by rw[hL];omega),λd hd=> ?_,λe=> ?_,λ_ e=>(by cases e),λa b hab=> ?_,λ_ e=>absurd e (by show(15:Int)≠9;decide),by rw[hL];omega⟩
 ·rw[r1.scan d hd,qj a7 hd,r2.scan d hd]
 ·rcases hn with h|h<;>rw[h]<;>rfl
 ·rw[hL] at hab|-;have hab:a=p.Ad/\b=p.Du:=hab.resolve_right ak;refine XP (by unfold chain;omega) (by decide) λnt hs=> ?_
  have s1:=(r1.at (a:=a) (b:=b) (.inr ak) (lv:=2) ak ak).s1 nt (aiX a b ak (λ_=>trivial) ak (λ_=>a2) a3 (λ_=>a4) a5 a6);have s2:=(r2.at (a:=a) (b:=b) (.inl hab) ak w2).s1 nt hs;have ht:(tgt (u,false) && Sr (aP l j))=true:=by rw[ka,Bool.and_true];unfold tgt;rw[hl];rfl
  refine iF (bK (fO (g:=λn x i nt=>bif tgt x && Sr (aP l i) then(ex l n 1 a b (i+1) nt).bind λy j nt=> .ok ((Tn.mk 15 (aP l i) [] [] [x.1,y.1],false):Xp) j nt else .ok x i nt) s1 ?_) λn=>by rw[ex]);exact bK (fO (g:=λn y i nt=> .ok ((Tn.mk 15 (aP l j) [] [] [u,y.1],false):Xp) i nt) s2 (iD _)) λn=>by rw[ht,aG]
theorem aJN{hu hv:Bool}{u v:Tn}{i j m:Nat}(r1:Rd l hu u (aU 12 99 2 0 p) i j)(v1:ag4 hu u (aU 12 99 2 0 p))(r2:Rd l hv v (aU 12 99 2 1 p) j m)(v2:ag4 hv v (aU 12 99 2 1 p)):Rd l false (.mk 12 99 [] [] [u,v]) p i m:=by
 have hL:X4 false (.mk 12 99 [] [] [u,v])=8:=rfl;have q1:=abk (k:=12) (op:=99) (n:=2) (j:=0) hp ak (by decide) (by decide) (λe=>by omega);have q2:=abk (k:=12) (op:=99) (n:=2) (j:=1) hp ak (by decide) (by decide) (λe=>by omega);rw[q1] at r1 v1;rw[q2] at r2 v2;have w1:=ahZ (n:=8) v1 rfl rfl;have w2:=ahZ (n:=9) v2 rfl rfl;have hb:agZ (aP l j)=true:=r2.sign (by show(Nat.beq 1 0 && p.ng||true)=true;simp);have hbk:aP l j=3\/aP l j=4\/aP l j=6\/aP l j=7\/aP l j=8\/aP l j=32\/aP l j=68:=by have:=hb;unfold agZ at this;simp only[Bool.or_eq_true,beq_iff_eq] at this;exact this
 have hst:∀a b,Stp 9 a b (aP l j):=λa b=>by
  refine aiX a b ak (λ_=>trivial) ?_ (λe=>by omega) ak (λe=>by omega) ?_ ak
  ·have:iT (aP l j)=0:=by rcases hbk with h|h|h|h|h|h|h<;>rw[h]<;>rfl
   omega
  ·rcases hbk with h|h|h|h|h|h|h<;>rw[h]<;>rfl
 refine⟨afP hp r1.fst (by rw[hL];omega),λd hd=>by rw[r1.scan d hd,r2.scan d hd],λe=> ?_,λ_ e=>(by cases e),λa b hab=> ?_,λ_ e=>absurd e (by show(12:Int)≠9;decide),by rw[hL];omega⟩
 ·refine r1.sign ?_;show(Nat.beq 0 0 && p.ng||(Nat.beq 0 1 &&((12:Int)==12 &&(99:Int)==99)))=true;rw[e];rfl
 ·rw[hL] at hab|-;have hab:a=p.Ad/\b=p.Du:=hab.resolve_right ak;have key:∀nt r,Stp 9 a b (aP l m)->KO (λn=>chP l n 8 a b (.mk 12 99 [] [] [u,v],false) m nt) r->KO (λn=>ex l n 8 a b i nt) r:=λnt r hs hr=>by refine(r1.at (a:=a) (b:=b) (.inl hab) ak w1).s2 (by unfold chain;omega) nt r (hst a b) ?_;have s2:=(r2.at (a:=a) (b:=b) (.inl hab) ak w2).s1 nt hs;refine iF (bK (fO (g:=λn y i nt=>chP l n 8 a b (.mk 12 99 [] [] [u,y.1],false) i nt) s2 hr) λn=> ?_);have hi:Gz 8 (b && Nat.beq 8 7) (aP l j)=true:=hb;rw[chP,hi,aG];rfl
  exact⟨λnt hs=>key nt _ (hs.mono ak) (aAM hs),λ_=>key,λe=>by omega⟩
end
end Go.Proofs.YtephpnbbbimjbaaGreatDoor
namespace Go.Proofs.YtephpnbbbimjbaaGreatDoor
open Go Go.Vm
variable {l:List Tk}
def ag5{d:Int}(hd:1<=d){i':Nat}:∀(n i:Nat),i' - i=n->pst l i i'->ahead (l.drop i) d=ahead (l.drop i') d
 |0,i,hn,h=>by
  obtain rfl:i=i':=by have:=h.1;omega
  rfl
 |n+1,i,hn,h=>by have h1:=h.2 i (zaQ _) ak;rw[qj (by rw[h1];unfold ntr;omega) hd];exact ag5 hd n (i+1) ak ⟨ak,λk h2 h3=>h.2 k ak h3⟩
def aGZ{k:Int}(h:bgE k):k≠1/\k≠2:=by unfold bgE at h;omega
def lvls{k:Int}(h:iT k≠0)(h99:k≠99):((k=44\/k=45)/\(iT k=3\/iT k=4))\/(k≠44/\k≠45/\(iT k=9\/iT k=10))\/((k=67\/k=46)/\iT k=6)\/(iT k=7/\k≠44/\k≠45)\/(k=60/\iT k=12):=by
 have hc:=asl h;rcases hc with e|e|e|e|e|e|e|e|e|e|e|e|e|e|e|e|e
 all_goals first
  |exact absurd e h99
  |(subst e;decide)
section
variable {p:Ps} (hp:jL p=true)
include hp
theorem aJO{hu hv:Bool}{u v:Tn}{i j j' m:Nat}(h0:iT (aP l j)≠0)(h99:aP l j≠99)(r1:Rd l hu u (aU 12 (aP l j) 2 0 p) i j)(v1:ag4 hu u (aU 12 (aP l j) 2 0 p))(hj:if aP l j=44\/aP l j=45 then pst l (j+1) j' else j'=j+1)
  (r2:Rd l hv v (aU 12 (aP l j) 2 1 p) j' m) (v2:ag4 hv v (aU 12 (aP l j) 2 1 p)) (hf:Fl 12 (aP l j) p):Rd l false (.mk 12 (aP l j) [] [] [u,v]) p i m:=by
 have hle:=SA (aP l j);have asf:lvl 12 (aP l j)≠15:=by show iT (aP l j)≠15;omega
 have q1:=abk (k:=12) (op:=aP l j) (n:=2) (j:=0) hp ak h0 asf (λe=>by omega);have q2:=abk (k:=12) (op:=aP l j) (n:=2) (j:=1) hp ak h0 asf (λe=>by omega);rw[q1] at r1 v1;rw[q2] at r2 v2;obtain⟨o24,ob,os,o34,on⟩:=aAZ h0 h99;obtain⟨L,hLk⟩:∃L:Nat,iT (aP l j)=(L:Int):=⟨(iT (aP l j)).toNat,ak⟩
 have hL:X4 false (.mk 12 (aP l j) [] [] [u,v])=L:=aJG hLk;have aRT:pst l (j+1) j':=by
  split at hj
  ·exact hj
  ·subst hj;exact⟨zaQ _,λk h1 h2=>by omega⟩
 have scan:∀d:Int,1<=d->ahead (l.drop i) d=ahead (l.drop m) d:=λd hd=>by rw[r1.scan d hd,qj on hd,ag5 hd _ (j+1) rfl aRT,r2.scan d hd]
 have sign:p.ng=true->agZ (aP l i)=true:=λe=>r1.sign (by show(Nat.beq 0 0 && p.ng||(Nat.beq 0 1 &&((12:Int)==12 && aP l j==99)))=true;rw[e];rfl)
 have stp:∀(a b:Bool) (lv:Nat),L<lv->3<=lv->Stp lv a b (aP l j):=λa b lv h1 h3=>aiX a b ak (λ_=>trivial) ak (λe=>by omega) o24 (λ_=>ob) os o34
 have s1:∀(x y:Nat),sides (aP l j)=((x:Int),(y:Int))->x<=X4 hu u/\y<=X4 hv v:=λx y hs=>by
  refine⟨ahZ (n:=x) v1 ?_ rfl,ahZ (n:=y) v2 ?_ rfl⟩
  ·show(bif Nat.beq 0 0 then(sides (aP l j)).1 else(sides (aP l j)).2)=_;rw[hs];rfl
  ·show(bif Nat.beq 1 0 then(sides (aP l j)).1 else(sides (aP l j)).2)=_;rw[hs];rfl
 have done:(L<=X4 hu u)->(∀a b,(a=p.Ad/\b=p.Du)->Rl l (.mk 12 (aP l j) [] [] [u,v],false) i m a b L)->1<=L/\L<=12->Rd l false (.mk 12 (aP l j) [] [] [u,v]) p i m:=λw1 hr hb=>⟨afP hp r1.fst (by rw[hL];exact w1),scan,sign,λ_ e=>(by cases e),λa b hab=>(by rw[hL] at hab|-;exact hr a b (hab.resolve_right ak)),λ_ e=>absurd e (by show(12:Int)≠9;decide),by rw[hL];omega⟩
 have aJP:∀nt,(bif Nat.ble L 4 then nl l (j+1) nt else(j+1,nt))=(j',nt):=λnt=>by
  have hk:=lvls h0 h99
  by_cases h4:L<=4
  ·rw[Nat.ble_eq_true_of_le h4,aG];exact apl (aGZ r2.fst.bg) nt _ (j+1) rfl aRT
  ·have:Nat.ble L 4=false:=by
    cases hq:Nat.ble L 4 with
    |false=>rfl
    |true=>rw[Nat.ble_eq] at hq;omega
   rw[this,aQ];rw[if_neg ak] at hj;rw[hj]
 have chn:chain L->L≠8->sides (aP l j)=((L:Int),((L+1:Nat):Int))->Rd l false (.mk 12 (aP l j) [] [] [u,v]) p i m:=λhc h8 hs=>by
  obtain⟨w1,w2⟩:=s1 L (L+1) hs;have hc':=hc;unfold chain at hc';refine done w1 (λa b hab=> ?_) ak;have key:∀nt r,Stp (L+1) a b (aP l m)->KO (λn=>chP l n L a b (.mk 12 (aP l j) [] [] [u,v],false) m nt) r->KO (λn=>ex l n L a b i nt) r:=λnt r hst hr=>by
   refine(r1.at (a:=a) (b:=b) (.inl hab) ak w1).s2 hc nt r (stp a b _ ak ak) ?_;have s2:=(r2.at (a:=a) (b:=b) (.inl hab) ak w2).s1 nt hst;refine iF (bK (fO (g:=λn y i nt=>chP l n L a b (.mk 12 (aP l j) [] [] [u,y.1],false) i nt) s2 hr) λn=> ?_);have h7:Nat.beq L 7=false:=by
    cases hq:Nat.beq L 7 with
    |false=>rfl
    |true=>rw[Nat.beq_eq] at hq;omega
   have h8':Nat.beq L 8=false:=by
    cases hq:Nat.beq L 8 with
    |false=>rfl
    |true=>rw[Nat.beq_eq] at hq;omega
   have hi:Gz L (b && Nat.beq L 7) (aP l j)=true:=by unfold Gz;rw[h8',h7,aQ,hLk,Bool.and_false,Bool.false_and];simp
   rw[chP,hi,aG];simp only[h8',aQ,aJP]
  exact⟨λnt hs=>key nt _ (hs.mono ak) (aAM hs),λ_=>key,λe=>by omega⟩
 have hk:=lvls h0 h99;rcases hk with⟨hk,h34⟩|⟨_,_,h90⟩|⟨hk,h6⟩|⟨h7,n44,n45⟩|⟨hk,h12⟩
 ·refine chn (by unfold chain;omega) ak ?_;rcases h34 with h|h
  ·have:L=3:=ak;subst this;unfold sides;rw[h];rfl
  ·have:L=4:=ak;subst this;unfold sides;rw[h];rfl
 ·refine chn (by unfold chain;omega) ak ?_;rcases h90 with h|h
  ·have:L=9:=ak;subst this;unfold sides;rw[h];rfl
  ·have:L=10:=ak;subst this;unfold sides;rw[h];rfl
 ·have:L=6:=ak;subst this;obtain⟨w1,w2⟩:=s1 7 7 (by unfold sides;rw[h6];rfl);refine done ak (λa b hab=>XP (by unfold chain;omega) (by decide) λnt hs=> ?_) ak;have e1:=(r1.at (a:=a) (b:=b) (.inl hab) ak w1).s1 nt (stp a b 7 ak ak);rw[if_neg ak] at hj;subst hj;have e2:=(r2.at (a:=a) (b:=b) (.inl hab) ak w2).s1 nt (hs.mono ak);have hc:(aP l j==67||aP l j==46)=true:=by rw[Bool.or_eq_true,beq_iff_eq,beq_iff_eq];exact hk
  refine iF (bK (fO (g:=λn x i nt=>bif aP l i==67||aP l i==46 then(ex l n 7 a b (i+1) nt).bind λy j nt=> .ok ((Tn.mk 12 (aP l i) [] [] [x.1,y.1],false):Xp) j nt else .ok x i nt) e1 ?_) λn=>by rw[ex]);exact bK (fO (g:=λn y i nt=> .ok ((Tn.mk 12 (aP l j) [] [] [u,y.1],false):Xp) i nt) e2 (iD _)) λn=>by rw[hc,aG]
 ·have:L=7:=ak;subst this;obtain⟨w1,w2⟩:=s1 8 8 (by unfold sides;rw[h7];rfl);refine done ak (λa b hab=>XP (by unfold chain;omega) (by decide) λnt hs=> ?_) ak;have e1:=(r1.at (a:=a) (b:=b) (.inl hab) ak w1).s1 nt (stp a b 8 ak ak);rw[if_neg ak] at hj;subst hj;have e2:=(r2.at (a:=a) (b:=b) (.inl hab) ak w2).s1 nt (hs.mono ak);have hc:Gz 7 b (aP l j)=true:=by
   unfold Gz;rw[show Nat.beq 7 8=false from rfl,aQ,h7];cases hb:b with
   |false=>rfl
   |true=>
    have h62:aP l j≠62:=λe=>hf.gt (by rw[<-hab.2];exact hb) ⟨rfl,e⟩
    rw[mX.2 h62];rfl
  refine iF (bK (fO (g:=λn x i nt=>bif Gz 7 b (aP l i) then(ex l n 8 a b (i+1) nt).bind λy j nt=> .ok ((Tn.mk 12 (aP l i) [] [] [x.1,y.1],false):Xp) j nt else .ok x i nt) e1 ?_) λn=>by rw[ex]);exact bK (fO (g:=λn y i nt=> .ok ((Tn.mk 12 (aP l j) [] [] [u,y.1],false):Xp) i nt) e2 (iD _)) λn=>by rw[hc,aG]
 ·have:L=12:=ak;subst this;obtain⟨w1,w2⟩:=s1 13 11 (by unfold sides;rw[h12];rfl);refine done ak (λa b hab=>XP (by unfold chain;omega) (by decide) λnt hs=> ?_) ak;have e1:=(r1.at (a:=a) (b:=b) (.inl hab) ak w1).s1 nt (stp a b 13 ak ak);rw[if_neg ak] at hj;subst hj;have hs11:Stp 11 a b (aP l m):=⟨λe=>by omega,λe=>by omega,λq hq e=>(by
   by_cases h:12<=q
   ·exact hs.op q h e
   ·have:iT (aP l m)=11:=ak;exact absurd this (aAY _)),λe=>by omega,λe=>by omega,λ_=>hs.step ak,hs.brk⟩
  have e2:=(r2.at (a:=a) (b:=b) (.inl hab) ak w2).s1 nt hs11;have hc:(aP l j==60)=true:=by rw[beq_iff_eq];exact hk
  refine iF (bK (fO (g:=λn x i nt=>bif aP l i==60 then(ex l n 11 a b (i+1) nt).bind λy j nt=> .ok ((Tn.mk 12 60 [] [] [x.1,y.1],false):Xp) j nt else .ok x i nt) e1 ?_) λn=>by rw[ex]);rw[hk];exact bK (fO (g:=λn y i nt=> .ok ((Tn.mk 12 60 [] [] [u,y.1],false):Xp) i nt) e2 (iD _)) λn=>rfl
end
def aJQ{h:Bool}{t:Tn}{i j:Nat}(r:Rd l h t .top i j):Rs l [t] i j where
 ne:=zaQ _
 bg:=r.fst.bg
 scan:=λd hd=>r.scan d ak
 two:=λe=>absurd e (by simp)
 rd:=λL nt h6 hs h36=>by have h1:=(r.at (.inl ⟨rfl,rfl⟩) (zaQ 1) r.lvl.1).s1 nt hs;refine iF (bK (fO (g:=λn x i nt=>bif aP l i==36 then(bif Nat.beq (L.length+1) 6 then .bad i else WO l n false false (L++[x.1]) (nl l (i+1) nt).1 (nl l (i+1) nt).2) else .ok (L++[x.1]) i nt) h1 (bK (iD _) λn=> ?_)) λn=>by rw[WO];rfl);rw[mX.2 h36,aQ]
def aFm{h:Bool}{t:Tn}{ks:List Tn}{i j j' m:Nat}(r:Rd l h t .top i j)(hk:aP l j=36)(hj:pst l (j+1) j')(rsT:Rs l ks j' m):Rs l (t::ks) i m where
 ne:=by simp
 bg:=r.fst.bg
 scan:=λd hd=>by rw[r.scan d ak,ax3 hk hd,ag5 ak _ (j+1) rfl hj,rsT.scan d hd]
 two:=λ_=>by rw[r.scan 1 ak];exact auD hk
 rd:=λL nt h6 hs h36=>by
  have hne:=rsT.ne;rw[yS] at h6;have h1:=(r.at (.inl ⟨rfl,rfl⟩) (zaQ 1) r.lvl.1).s1 nt (by rw[hk];exact XO _ ak 1 (zaQ _) _ _);have h2:=rsT.rd (L++[t]) nt (by simp;omega) hs h36;have hn:=apl (aGZ rsT.bg) nt _ (j+1) rfl hj;have h5:Nat.beq (L.length+1) 6=false:=by
   cases hq:Nat.beq (L.length+1) 6 with
   |false=>rfl
   |true=>rw[Nat.beq_eq] at hq;omega
  rw[Qc,List.singleton_append] at h2;refine iF (bK (fO (g:=λn x i nt=>bif aP l i==36 then(bif Nat.beq (L.length+1) 6 then .bad i else WO l n false false (L++[x.1]) (nl l (i+1) nt).1 (nl l (i+1) nt).2) else .ok (L++[x.1]) i nt) h1 (bK h2 λn=> ?_)) λn=>by rw[WO];rfl);rw[hk,h5,hn];rfl
def Kn(l:List Tk):Tg->Nat->Nat->Prop
 | .dv h t p,i,j=>jL p=true->Rd l h t p i j/\ag4 h t p
 | .nv t p,i,j=>jL p=true->Fl t.kind t.op p->Rd l false t p i j
 | .ls ks,i,j=>Rs l ks i j
def awn{op:Int}(h:iT op≠0):lvl 12 op≠0:=h
def aG0{g:Tg}{i j:Nat}(h:Dx l g i j):Kn l g i j:=by
 induction h with
 |par ho _ hc ih=>exact λhp=>⟨aJF hp ho (ih rfl).1 hc,.inl (by rw[aAS];unfold jL at hp;rw[rZ,rZ,decide_eq_true_eq,decide_eq_true_eq] at hp;omega)⟩
 |node hf _ ih=>
  intro hp;have h1:=aFf hf;refine⟨ih hp h1.1, ?_⟩;rcases h1.2 with h2|h2
  ·refine .inl ?_;rw[aGY];unfold jL at hp;rw[rZ,rZ,decide_eq_true_eq,decide_eq_true_eq] at hp;omega
  ·exact .inr ⟨h2.1,h2.2,rfl⟩
 |one _ ih=>exact aJQ (ih rfl).1
 |cons _ hk hj _ ih1 ih2=>exact aFm (ih1 rfl).1 hk hj ih2
 |name hk=>exact λhp _=>aFh hp hk
 |leaf h3 hk=>exact λhp hf=>aFi hp h3 hk hf
 |index hk ho _ h6 hc ih=>exact λhp _=>aAV hp hk ho ih h6 hc
 |call h7 hk ho _ h6 hc ih=>exact λhp _=>aFj hp h7 hk ho ih h6 hc
 |aAQ h7 hk ho hc=>exact λhp _=>aAW hp h7 hk ho hc
 |len hk hx ho=>exact λhp _=>aJE hp hk hx ho
 |field hk _ ih=>intro hp _;have:=ih (jF hp ak (by decide));exact aAX hp hk this.1 this.2
 |pre hk hl _ ih=>exact λhp hf=>aJH hp hk hl (ih (jF hp ak (by show(13:Int)≠0;decide)) (aAR hl)) hf
 |post hk hl _ ih=>exact λhp _=>aFk hp hk hl (ih (jF hp ak (by show(13:Int)≠0;decide)) (aAR hl))
 |una hk _ ih=>intro hp hf;have:=ih (jF hp ak (by show(11:Int)≠0;decide));exact aJI hp hk this.1 this.2 hf
 |in1 _ h24 h6 ih=>intro hp hf;have:=ih (jF hp ak (by decide));exact aJK hp this.1 this.2 h24 h6 hf
 |inN ho _ h2 h6 hc h24 hn ih=>exact λhp hf=>aJL hp ho ih h2 h6 hc h24 hn hf
 |cond _ k1 _ k2 _ ih1 ih2 ih3=>intro hp hf;have a1:=ih1 (jF hp ak (by decide));have a2:=ih2 (jF hp ak (by decide));have a3:=ih3 (jF hp ak (by decide));exact aFl hp a1.1 a1.2 k1 a2.1 a2.2 k2 a3.1 a3.2
 |asg hl _ ka _ ih1 ih2=>intro hp hf;have a2:=ih2 (jF hp ak (by show(1:Int)≠0;decide));exact aJM hp hl (ih1 (jF hp ak (by show(1:Int)≠0;decide)) (aAR hl)) ka a2.1 a2.2
 |bin h0 h99 _ hj _ ih1 ih2=>intro hp hf;have a1:=ih1 (jF hp ak (awn h0));have a2:=ih2 (jF hp ak (awn h0));exact aJO hp h0 h99 a1.1 a1.2 hj a2.1 a2.2 hf
 |cat _ _ ih1 ih2=>intro hp hf;have a1:=ih1 (jF hp ak (by decide));have a2:=ih2 (jF hp ak (by decide));exact aJN hp a1.1 a1.2 a2.1 a2.2
def aFo{h:Bool}{t:Tn}{p:Ps}{i j:Nat}(hd:Dx l (.dv h t p) i j)(hp:jL p=true)(hdo:p.yQ=false)(hs:Stp p.level.toNat p.Ad p.Du (aP l j))(nt:jf):KO (λn=>ex l n p.level.toNat p.Ad p.Du i nt) (.ok (t,h) j nt):=by
 obtain⟨r,v⟩:=aG0 hd hp;have hp':=hp;unfold jL at hp';rw[rZ,rZ,decide_eq_true_eq,decide_eq_true_eq] at hp';rcases v with v|⟨v,_⟩
 ·exact(r.at (.inl ⟨rfl,rfl⟩) (lv:=p.level.toNat) ak ak).s1 nt hs
 ·rw[hdo] at v;cases v
end Go.Proofs.YtephpnbbbimjbaaGreatDoor
namespace Go.Proofs.YtephpnbbbimjbaaGreatDoor
open Go Go.Vm
variable {l:List Tk}
def Mt(l:List Tk):Nat->List Tk->Prop
 |_,[]=>True
 |i,t::T=>(aP l i=t.kind/\Bv l i=t.text)/\Mt l (i+1) T
def KJ:∀(A B:List Tk) (i:Nat),Mt l i (A++B)↔Mt l i A/\Mt l (i+A.length) B
 |[],B,i=>by simp[Mt]
 |a::A,B,i=>by rw[zca,Mt,Mt,KJ A B,yS,show i+1+A.length=i+(A.length+1) by omega];simp only[and_assoc]
def qK(a:Tk)(B:List Tk)(i:Nat):Mt l i (a::B)↔(aP l i=a.kind/\Bv l i=a.text)/\Mt l (i+1) B:=Iff.rfl
def aA0{t:Tn}(h:Wq t)(he:PW t):1<=lvl t.kind t.op/\lvl t.kind t.op<=15:=by
 obtain⟨k,op,x,y,ks⟩:=t;obtain⟨h1,h2⟩:=he;change 1<=k at h1;change k<=15 at h2;show 1<=lvl k op/\lvl k op<=15;rw[Wq] at h;obtain⟨hf,_⟩:=h;generalize hn:ks.length=n at hf;cases hf with
 |bin hb=>
  show 1<=iT op/\iT op<=15;have:=SA op;have h0:iT op≠0:=by unfold akK at hb;simp only[Bool.or_eq_true,beq_iff_eq] at hb;have hc:op=60\/op=57\/op=58\/op=59\/op=55\/op=56\/op=99\/op=63\/op=48\/op=47\/op=50\/op=62\/op=49\/op=67\/op=46\/op=45\/op=44:=ak;rcases hc with h|h|h|h|h|h|h|h|h|h|h|h|h|h|h|h|h<;>subst h<;>decide
  omega
 |name=>exact⟨by decide,by decide⟩
 |tok h _=>rcases h with h|h|h<;>subst h<;>exact⟨by decide,by decide⟩
 |index h _=>rcases h with h|h<;>subst h<;>exact⟨by decide,by decide⟩
 |call h _ _=>rcases h with h|h<;>subst h<;>first|exact⟨by decide,by decide⟩|omega
 |blt=>exact⟨by decide,by decide⟩
 |one h=>rcases h with h|h|h|h<;>subst h<;>first|exact⟨by decide,by decide⟩|omega
 |step h _=>rcases h with h|h<;>subst h<;>exact⟨(by show(1:Int)<=13;decide),(by show(13:Int)<=15;decide)⟩
 |una _=>exact⟨(by show(1:Int)<=11;decide),(by show(11:Int)<=15;decide)⟩
 |cond=>exact⟨by decide,by decide⟩
 |asg _=>exact⟨(by show(1:Int)<=1;decide),(by show(1:Int)<=15;decide)⟩
 |none h=>omega
 |prn=>omega
 |prt=>omega
 |word h=>omega
 |if_=>omega
 |two h=>omega
 |for_=>omega
 |ar9=>omega
 |many h=>omega
 |com=>omega
 |rule=>omega
 |range=>omega
 |func=>omega
def ag6{k op:Int}(h:1<=lvl k op):fits k op .top=true:=by unfold fits;rw[show jL .top=true from rfl,mX.2 (show lvl k op≠0 by omega)];simp only[Ps.top,zaP,Bool.or_self,Bool.false_and,aQ,Bool.false_or];exact zdt h
def Dt(l:List Tk)(t:Tn):Prop:=Wq t->PW t->∀p i,jL p=true->Mt l i (mV t p)->Dx l (.nv t p) i (i+(mV t p).length)
def PG{u:Tn}(ih:Dt l u)(h1:Wq u)(h2:PW u){q:Ps}(hq:jL q=true){i:Nat}(hm:Mt l i (lu u q)):∃h,Dx l (.dv h u q) i (i+(lu u q).length):=by
 unfold lu at hm|-;cases hf:fits u.kind u.op q with
 |true=>rw[hf,aG] at hm;rw[aG];exact⟨false,.node hf (ih h1 h2 q i hq hm)⟩
 |false=>
  rw[hf,aQ,qK,KJ] at hm;obtain⟨⟨k1,_⟩,m1,⟨k2,_⟩,_⟩:=hm;have hd:=ih h1 h2 .top (i+1) rfl m1;rw[aQ];refine⟨true, ?_⟩;have:=Dx.par (p:=q) (h:=false) k1 (.node (ag6 (aA0 h1 h2).1) hd) k2;have hl:(tok 32::(mV u .top++[tok 33])).length=1+(mV u .top).length+1:=by simp;omega
  rw[hl,show i+(1+(mV u .top).length+1)=i+1+(mV u .top).length+1 by omega];exact this
def IC{k op:Int}{n:Nat}{p:Ps}{t:Tn}{ts:List Tn}{j:Nat}(h:kM k j=false):fF k op n p (t::ts) j=lu t (aU k op n j p)::fF k op n p ts (j+1):=by rw[fF,h];rfl
def apm{k op:Int}{n:Nat}{p:Ps}{t:Tn}{ts:List Tn}{j:Nat}(h:kM k j=true):fF k op n p (t::ts) j=mV t (aU k op n j p)::fF k op n p ts (j+1):=by rw[fF,h];rfl
def afQ(k op:Int)(n:Nat)(p:Ps)(ht:∀j,kM k j=false)(hp:∀j,j<n->aU k op n j p=.top):∀(ks:List Tn) (j i:Nat),ks≠[]->j+ks.length<=n->(∀u,u∈ks->Dt l u/\Wq u/\PW u)->Mt l i (uX true (fF k op n p ks j))->Dx l (.ls ks) i (i+(uX true (fF k op n p ks j)).length)
 |[],_,_,h,_,_,_=>absurd rfl h
 |[u],j,i,_,hj,h,hm=>by rw[GK] at hj;rw[IC (ht j),fF,uX,uX,aG,List.append_nil,hp j ak] at hm|-;obtain⟨a1,a2,a3⟩:=h u (by simp);obtain⟨hh,hd⟩:=PG a1 a2 a3 rfl hm;exact .one hd
 |u::v::ks,j,i,_,hj,h,hm=>by
  rw[yS] at hj;rw[IC (ht j),uX,aG,hp j ak] at hm|-;have hcom:uX false (fF k op n p (v::ks) (j+1))=tok 36::uX true (fF k op n p (v::ks) (j+1)):=by rw[IC (ht (j+1)),uX,uX];rfl
  rw[hcom,KJ,qK] at hm;obtain⟨m1,⟨k1,_⟩,m2⟩:=hm;obtain⟨a1,a2,a3⟩:=h u (by simp);obtain⟨hh,hd⟩:=PG a1 a2 a3 rfl m1;have ih:=afQ k op n p ht hp (v::ks) (j+1) _ (by simp) (by simpa using by simp at hj|-;omega) (λw hw=>h w (by simp[hw])) m2;have:=Dx.cons hd k1 ⟨zaQ _,λq h1 h2=>by omega⟩ ih;rw[hcom,wM,yS];rw[show i+((lu u .top).length+((uX true (fF k op n p (v::ks) (j+1))).length+1))=i+(lu u .top).length+1+(uX true (fF k op n p (v::ks) (j+1))).length by omega];exact this
def afR{k op:Int}{n j:Nat}{p:Ps}(hp:jL p=true)(hj:j<n)(h:lvl k op=15\/(k=13/\1<n)):aU k op n j p=.top:=by
 have h1:Nat.blt j n=true:=by rw[Nat.blt_eq];exact hj
 rcases h with h|⟨h,h2⟩
 ·exact Gy hp hj h
 ·subst h;have h2':Nat.blt 1 n=true:=by rw[Nat.blt_eq];exact h2
  unfold aU;rw[hp,h1,h2'];rfl
def aiY{ks:List Tn}(h:ks.length=1):∃u,ks=[u]:=by
 match ks,h with
 |[u],_=>exact⟨u,rfl⟩
def asn{ks:List Tn}(h:ks.length=2):∃u v,ks=[u,v]:=by
 match ks,h with
 |[u,v],_=>exact⟨u,v,rfl⟩
def auH{ks:List Tn}(h:ks.length=3):∃u v w,ks=[u,v,w]:=by
 match ks,h with
 |[u,v,w],_=>exact⟨u,v,w,rfl⟩
def aFp(t:Tn):Dt l t:=by
 refine Tn.ind (P:=Dt l) ?_ t;intro k op x y ks ih hr he p i hp hm;have hlv:=aA0 hr he;change 1<=lvl k op/\lvl k op<=15 at hlv;obtain⟨he1,he2⟩:=he;change 1<=k at he1;change k<=15 at he2;rw[Wq] at hr;obtain⟨hf,hks⟩:=hr;have hpos:∀j,j<ks.length->jL (aU k op ks.length j p)=true:=λj hj=>jF hp hj ak
 have SC:∀(j:Nat) (u:Tn),ks[j]? =some u->Dt l u/\Wq u/\PW u:=λj u hu=>by
  have h1:=YD hks hu;rw[Nat.zero_add] at h1;refine⟨ih u (WW hu),h1.2, ?_⟩;have h2:=h1.1;have hc:cls k op ks.length j=6\/cls k op ks.length j=0:=by
   unfold cls;split
   ·exact .inl rfl
   ·repeat(rw[if_neg ak])
    exact .inr rfl
  rcases hc with hc|hc<;>rw[hc] at h2<;>simp only[Px] at h2<;>unfold PW<;>omega
 have hmem:∀u,u∈ks->Dt l u/\Wq u/\PW u:=λu hu=>by obtain⟨j,hj,hxj⟩:=List.mem_iff_getElem.1 hu;exact SC j u (NV.2 ⟨hj,hxj⟩)
 have aJR:(k=9\/k=10\/k=15)->∀u,ks[0]? =some u->SN u.kind=true:=λhk u hu=>by
  have h1:=(YD hks hu).1;rw[Nat.zero_add] at h1;have hc:cls k op ks.length 0=6:=by unfold cls;rw[if_pos ak]
  rw[hc] at h1;have h1:u.kind=1\/u.kind=5\/u.kind=6:=h1;unfold SN;rcases h1 with h|h|h<;>rw[h]<;>rfl
 rw[mV] at hm|-;generalize hn:ks.length=n at hf hm hpos aJR;cases hf with
 |name hx=>obtain rfl:=List.eq_nil_of_length_eq_zero hn;have e:D8 1 0 0 x (fF 1 0 0 p [] 0)=[⟨6,x,0⟩]:=rfl;rw[e] at hm|-;obtain⟨⟨k1,x1⟩,_⟩:=hm;have:=Dx.name (p:=p) k1;rw[x1] at this;exact this
 |tok hk hx=>
  obtain rfl:=List.eq_nil_of_length_eq_zero hn;have e:D8 k 0 0 x (fF k 0 0 p [] 0)=[⟨k+1,x,0⟩]:=by rcases hk with h|h|h<;>subst h<;>rfl
  rw[e] at hm|-;obtain⟨⟨k1,x1⟩,_⟩:=hm;have:=Dx.leaf (p:=p) hk k1;rw[x1] at this;exact this
 |index hk hx h1 h6=>
  rcases hk with rfl|rfl
  ·have e:D8 5 0 n x (fF 5 0 n p ks 0)=⟨6,x,0⟩::tok 34::(uX true (fF 5 0 n p ks 0)++[tok 35]):=rfl;rw[e] at hm|-;rw[qK,qK,KJ,qK] at hm;obtain⟨⟨k1,x1⟩,⟨k2,_⟩,m1,⟨k3,_⟩,_⟩:=hm;have hl:=afQ 5 0 n p (λj=>by simp[kM]) (λj hj=>afR hp hj (.inl rfl)) ks 0 (i+2) (λe=>by rw[e] at hn;simp at hn;omega) ak hmem m1;have:=Dx.index (p:=p) k1 k2 hl ak k3;rw[x1] at this;simp only[yS,wM,SS];rw[show i+((uX true (fF 5 0 n p ks 0)).length+(0+1)+1+1)=i+2+(uX true (fF 5 0 n p ks 0)).length+1 by omega];exact this
  ·by_cases h2:1<n
   ·have hb:Nat.blt 1 n=true:=by rw[Nat.blt_eq];exact h2
    have e:D8 13 0 n x (fF 13 0 n p ks 0)=(tok 32::(uX true (fF 13 0 n p ks 0)++[tok 33]))++[tok 24,⟨6,x,0⟩]:=by simp only[D8,Int.reduceBEq,Bool.or_self,aQ,aG,hb]
    rw[e] at hm|-;rw[KJ,qK,KJ,qK,qK,qK] at hm;obtain⟨⟨⟨k1,_⟩,m1,⟨k2,_⟩,_⟩,⟨k3,_⟩,⟨k4,x4⟩,_⟩:=hm;have hl:=afQ 13 0 n p (λj=>by simp[kM]) (λj hj=>afR hp hj (.inr ⟨rfl,h2⟩)) ks 0 (i+1) (λe=>by rw[e] at hn;simp at hn;omega) ak hmem m1;have hlen:i+(tok 32::(uX true (fF 13 0 n p ks 0)++[tok 33])).length=i+1+(uX true (fF 13 0 n p ks 0)).length+1:=by simp;omega
    rw[hlen] at k3 k4 x4;have:=Dx.inN (p:=p) k1 hl ak ak k2 k3 k4;rw[x4] at this;rw[wM,<-Nat.add_assoc,hlen];exact this
   ·have h1':ks.length=1:=ak;obtain⟨u,rfl⟩:=aiY h1';obtain rfl:n=1:=ak;have e:D8 13 0 1 x (fF 13 0 1 p [u] 0)=lu u (aU 13 0 1 0 p)++[tok 24,⟨6,x,0⟩]:=by rw[IC rfl];rfl
    rw[e] at hm|-;rw[KJ,qK,qK] at hm;obtain⟨m1,⟨k3,_⟩,⟨k4,x4⟩,_⟩:=hm;obtain⟨a1,a2,a3⟩:=SC 0 u rfl;obtain⟨hh,hd⟩:=PG a1 a2 a3 (hpos 0 ak) m1;have:=Dx.in1 (p:=p) hd k3 k4;rw[x4] at this;rw[wM,<-Nat.add_assoc];exact this
 |call hk hx h6=>
  have hk:k=7:=ak;subst hk;have e:D8 7 0 n x (fF 7 0 n p ks 0)=⟨7,x,0⟩::tok 32::(uX true (fF 7 0 n p ks 0)++[tok 33]):=rfl;rw[e] at hm|-;rw[qK,qK,KJ,qK] at hm;obtain⟨⟨k1,x1⟩,⟨k2,_⟩,m1,⟨k3,_⟩,_⟩:=hm
  by_cases h0:ks=[]
  ·subst h0;obtain rfl:n=0:=by simpa using hn.symm
   have:=Dx.aAQ (p:=p) (.inl rfl) k1 k2 k3;rw[x1] at this;exact this
  ·have hl:=afQ 7 0 n p (λj=>by simp[kM]) (λj hj=>afR hp hj (.inl rfl)) ks 0 (i+2) h0 ak hmem m1;have:=Dx.call (p:=p) (.inl rfl) k1 k2 hl ak k3;rw[x1] at this;simp only[yS,wM,SS];rw[show i+((uX true (fF 7 0 n p ks 0)).length+(0+1)+1+1)=i+2+(uX true (fF 7 0 n p ks 0)).length+1 by omega];exact this
 |blt hx h6=>
  have e:D8 8 0 n x (fF 8 0 n p ks 0)=⟨8,x,0⟩::tok 32::(uX true (fF 8 0 n p ks 0)++[tok 33]):=rfl;rw[e] at hm|-;rw[qK,qK,KJ,qK] at hm;obtain⟨⟨k1,x1⟩,⟨k2,_⟩,m1,⟨k3,_⟩,_⟩:=hm
  by_cases h0:ks=[]
  ·subst h0;obtain rfl:n=0:=by simpa using hn.symm
   have:=Dx.aAQ (p:=p) (.inr rfl) k1 k2 k3;rw[x1] at this;exact this
  ·have hl:=afQ 8 0 n p (λj=>by simp[kM]) (λj hj=>afR hp hj (.inl rfl)) ks 0 (i+2) h0 ak hmem m1;have:=Dx.call (p:=p) (.inr rfl) k1 k2 hl ak k3;rw[x1] at this;simp only[yS,wM,SS];rw[show i+((uX true (fF 8 0 n p ks 0)).length+(0+1)+1+1)=i+2+(uX true (fF 8 0 n p ks 0)).length+1 by omega];exact this
 |one hk=>
  have hk:k=6:=ak;subst hk;obtain⟨u,rfl⟩:=aiY hn;have e:D8 6 0 1 [] (fF 6 0 1 p [u] 0)=tok 68::lu u (aU 6 0 1 0 p):=by rw[IC rfl];rfl
  rw[e] at hm|-;rw[qK] at hm;obtain⟨⟨k1,_⟩,m1⟩:=hm;obtain⟨a1,a2,a3⟩:=SC 0 u rfl;obtain⟨hh,hd⟩:=PG a1 a2 a3 (hpos 0 ak) m1;rw[yS,Nat.add_comm _ 1,<-Nat.add_assoc];exact .field k1 hd
 |step hk hop=>
  obtain⟨u,rfl⟩:=aiY hn;obtain⟨a1,a2,a3⟩:=SC 0 u rfl;have hlu:=aJR ak u rfl;have hst:isStep op=true:=by rcases hop with h|h<;>subst h<;>rfl
  rcases hk with rfl|rfl
  ·have e:D8 9 op 1 [] (fF 9 op 1 p [u] 0)=tok op::mV u (aU 9 op 1 0 p):=by rw[apm rfl];rfl
   rw[e] at hm|-;rw[qK] at hm;obtain⟨⟨k1,_⟩,m1⟩:=hm;have hd:=a1 a2 a3 _ (i+1) (hpos 0 ak) m1;have hko:aP l i=op:=k1;have:=Dx.pre (p:=p) (l:=l) (u:=u) (i:=i) (by rw[hko];exact hst) hlu (by rw[hko];exact hd);rw[hko] at this;rw[yS,Nat.add_comm _ 1,<-Nat.add_assoc];exact this
  ·have e:D8 10 op 1 [] (fF 10 op 1 p [u] 0)=mV u (aU 10 op 1 0 p)++[tok op]:=by rw[apm rfl];rfl
   rw[e] at hm|-;rw[KJ,qK] at hm;obtain⟨m1,⟨k1,_⟩,_⟩:=hm;have hd:=a1 a2 a3 _ i (hpos 0 ak) m1;have hko:aP l (i+(mV u (aU 10 op 1 0 p)).length)=op:=k1;have:=Dx.post (p:=p) (l:=l) (u:=u) (i:=i) (j:=i+(mV u (aU 10 op 1 0 p)).length) (by rw[hko];exact hst) hlu (by rw[hko];exact hd);rw[hko] at this;rw[wM,<-Nat.add_assoc];exact this
 |una hop=>
  obtain⟨u,rfl⟩:=aiY hn;obtain⟨a1,a2,a3⟩:=SC 0 u rfl;have e:D8 11 op 1 [] (fF 11 op 1 p [u] 0)=tok op::lu u (aU 11 op 1 0 p):=by rw[IC rfl];rfl
  rw[e] at hm|-;rw[qK] at hm;obtain⟨⟨k1,_⟩,m1⟩:=hm;have hko:aP l i=op:=k1;obtain⟨hh,hd⟩:=PG a1 a2 a3 (hpos 0 ak) m1;have:=Dx.una (p:=p) (l:=l) (u:=u) (i:=i) (h:=hh) (by rw[hko];exact hop) (by rw[hko];exact hd);rw[hko] at this;rw[yS,Nat.add_comm _ 1,<-Nat.add_assoc];exact this
 |bin hb=>
  obtain⟨u,v,rfl⟩:=asn hn;obtain⟨a1,a2,a3⟩:=SC 0 u rfl;obtain⟨b1,b2,b3⟩:=SC 1 v rfl;have h0:iT op≠0:=by have:1<=iT op:=hlv.1;omega
  by_cases h99:op=99
  ·subst h99;have e:D8 12 99 2 [] (fF 12 99 2 p [u,v] 0)=lu u (aU 12 99 2 0 p)++lu v (aU 12 99 2 1 p):=by rw[IC rfl,IC rfl];rfl
   rw[e] at hm|-;rw[KJ] at hm;obtain⟨m1,m2⟩:=hm;obtain⟨hh,hd⟩:=PG a1 a2 a3 (hpos 0 ak) m1;obtain⟨hk,hd2⟩:=PG b1 b2 b3 (hpos 1 ak) m2;rw[wM,<-Nat.add_assoc];exact .cat hd hd2
  ·have e:D8 12 op 2 [] (fF 12 op 2 p [u,v] 0)=lu u (aU 12 op 2 0 p)++(tok op::lu v (aU 12 op 2 1 p)):=by rw[IC rfl,IC rfl];simp only[D8,Int.reduceBEq,Bool.or_self,aQ,mX.2 h99];rfl
   rw[e] at hm|-;rw[KJ,qK] at hm;obtain⟨m1,⟨k1,_⟩,m2⟩:=hm;obtain⟨hh,hd⟩:=PG a1 a2 a3 (hpos 0 ak) m1;obtain⟨hk,hd2⟩:=PG b1 b2 b3 (hpos 1 ak) m2;generalize hj:i+(lu u (aU 12 op 2 0 p)).length=j at *;have hko:aP l j=op:=k1;have:=Dx.bin (p:=p) (l:=l) (u:=u) (v:=v) (i:=i) (j:=j) (j':=j+1) (hu:=hh) (hv:=hk) (by rw[hko];exact h0) (by rw[hko];exact h99) (by rw[hko];exact hd) (by split<;>first|exact⟨zaQ _,λq h1 h2=>by omega⟩|rfl) (by rw[hko];exact hd2);rw[hko] at this;rw[wM,yS,<-Nat.add_assoc,hj,Nat.add_comm _ 1,<-Nat.add_assoc];exact this
 |cond=>
  obtain⟨u,v,w,rfl⟩:=auH hn;obtain⟨a1,a2,a3⟩:=SC 0 u rfl;obtain⟨b1,b2,b3⟩:=SC 1 v rfl;obtain⟨c1,c2,c3⟩:=SC 2 w rfl;have e:D8 14 0 3 [] (fF 14 0 3 p [u,v,w] 0)=lu u (aU 14 0 3 0 p)++(tok 65::(lu v (aU 14 0 3 1 p)++(tok 66::lu w (aU 14 0 3 2 p)))):=by rw[IC rfl,IC rfl,IC rfl];rfl
  rw[e] at hm|-;rw[KJ,qK,KJ,qK] at hm;obtain⟨m1,⟨k1,_⟩,m2,⟨k2,_⟩,m3⟩:=hm;obtain⟨hh,hd⟩:=PG a1 a2 a3 (hpos 0 ak) m1;obtain⟨hk,hd2⟩:=PG b1 b2 b3 (hpos 1 ak) m2;obtain⟨hq,hd3⟩:=PG c1 c2 c3 (hpos 2 ak) m3;have:=Dx.cond hd k1 hd2 k2 hd3;rw[wM,yS,wM,yS];rw[show i+((lu u (aU 14 0 3 0 p)).length+((lu v (aU 14 0 3 1 p)).length+((lu w (aU 14 0 3 2 p)).length+1)+1))=i+(lu u (aU 14 0 3 0 p)).length+1+(lu v (aU 14 0 3 1 p)).length+1+(lu w (aU 14 0 3 2 p)).length by omega];exact this
 |asg hb=>
  obtain⟨u,v,rfl⟩:=asn hn;obtain⟨a1,a2,a3⟩:=SC 0 u rfl;obtain⟨b1,b2,b3⟩:=SC 1 v rfl;have hlu:=aJR ak u rfl;have h99:op≠99:=λe=>by rw[e] at hb;exact absurd hb (by decide)
  have e:D8 15 op 2 [] (fF 15 op 2 p [u,v] 0)=mV u (aU 15 op 2 0 p)++(tok op::lu v (aU 15 op 2 1 p)):=by rw[apm rfl,IC rfl];simp only[D8,Int.reduceBEq,Bool.or_self,aQ,mX.2 h99];rfl
  rw[e] at hm|-;rw[KJ,qK] at hm;obtain⟨m1,⟨k1,_⟩,m2⟩:=hm;have hd:=a1 a2 a3 _ i (hpos 0 ak) m1;obtain⟨hk,hd2⟩:=PG b1 b2 b3 (hpos 1 ak) m2;generalize hj:i+(mV u (aU 15 op 2 0 p)).length=j at *;have hko:aP l j=op:=k1;have:=Dx.asg (p:=p) (l:=l) (u:=u) (v:=v) (i:=i) (j:=j) (hv:=hk) hlu (by rw[hko];exact hd) (by rw[hko];exact hb) (by rw[hko];exact hd2);rw[hko] at this;rw[wM,yS,<-Nat.add_assoc,hj,Nat.add_comm _ 1,<-Nat.add_assoc];exact this
 |none h=>omega
 |prn=>omega
 |prt=>omega
 |word h=>omega
 |if_=>omega
 |two h=>omega
 |for_=>omega
 |ar9=>omega
 |many h=>omega
 |com=>omega
 |rule=>omega
 |range=>omega
 |func=>omega
def aFq{t:Tn}(h:Wq t)(he:PW t){p:Ps}(hp:jL p=true){i:Nat}(hm:Mt l i (lu t p)):∃h,Dx l (.dv h t p) i (i+(lu t p).length):=PG (aFp t) h he hp hm
end Go.Proofs.YtephpnbbbimjbaaGreatDoor
namespace Go.Proofs.YtephpnbbbimjbaaGreatDoor
open Go Go.Vm
def aJS(a:Tk)(g:aC)(b:Tk):Bool:=
 (!(g==[])|| !(AZ a b)) &&((!(a.kind==7)||(g==[] && b.kind==32)) &&((!(a.kind==2)||(g==[] && b.kind==1)) &&((!(b.kind==5)|| !(qX a.kind)) &&(!(b.kind==58||b.kind==41)||qX a.kind))))
def aiZ{a:Tk}{g:aC}{b:Tk}(h:aJS a g b=true):adj a g b:=by
 unfold aJS at h;simp only[rZ,Bool.or_eq_true,Bool.not_eq_true',beq_iff_eq,mX] at h;obtain⟨h1,h2,h3,h4,h5⟩:=h;refine⟨λe=>h1.resolve_left (λq=>q e),λe=>h2.resolve_left (λq=>q e),λe=>h3.resolve_left (λq=>q e),λe=>h4.resolve_left (λq=>q e),λe=>h5.resolve_left (λq=> ?_)⟩;rw[Bool.or_eq_false_iff,mX,mX] at q;rcases e with e|e
 ·exact q.1 e
 ·exact q.2 e
def aFr:Tk->List Gt->Bool
 |_,[]=>true
 |a,x::r=>(x.1.all λc=>c==32) &&(iR x.2.kind x.2.text &&(aJS a x.1 x.2 && aFr x.2 r))
def YI:∀(a:Tk) (L:List Gt),aFr a L=true->okS a L
 |_,[],_=>trivial
 |a,x::r,h=>by simp only[aFr,rZ,List.all_eq_true,beq_iff_eq] at h;exact⟨h.1,h.2.1,aiZ h.2.2.1,YI _ _ h.2.2.2⟩
def nlT:Tk:=⟨1,[10],0⟩
def nmT(x:aC):Tk:=⟨6,x,0⟩
def awo(h:Nat):List Gt:=match h with
 |0=>[([],tok 13),([32],tok 32),([],nmT [120]),([],tok 33)]
 |1=>[([],tok 15),([32],tok 32),([],nmT [120]),([],tok 33)]
 |2=>[([],tok 16),([32],tok 32),([],tok 37),([],tok 37),([],tok 33)]
 |_=>[([],tok 16),([32],tok 32),([],nmT [107]),([32],tok 24),([32],nmT [97]),([],tok 33)]
def Js(h:Nat):List Gt:=([],tok 10)::([32],tok 30)::awo h
def inG(m:Nat)(b:Tk):List Gt:=match m with
 |0=>[([32],b)]
 |1=>[([32],tok 30),([],b)]
 |_=>[([32],tok 30),([],nlT),([],b)]
def apn(m:Nat):List Gt:=match m with
 |0=>[([],tok 31)]
 |1=>[([],tok 31),([],tok 31)]
 |_=>[([],tok 37),([],nlT),([],tok 31),([],nlT),([],tok 31),([],nlT)]
def Uk(h m:Nat)(b:Tk)(R:List Gt):List Gt:=Js h++(inG m b++(R++apn m))
def aJT(h:Nat):okS ⟨0,[],0⟩ (Js h)/\lastT ⟨0,[],0⟩ (Js h)=tok 33:=by
 have k:∀h,h<4->aFr ⟨0,[],0⟩ (Js h)=true:=by decide+kernel
 match h with
 |0=>exact⟨YI _ _ (k 0 ak),rfl⟩
 |1=>exact⟨YI _ _ (k 1 ak),rfl⟩
 |2=>exact⟨YI _ _ (k 2 ak),rfl⟩
 |n+3=>exact⟨YI _ _ (k 3 ak),rfl⟩
def aJU{a:Tk}(ha:iR a.kind a.text=true)(he:qX a.kind=true)(m:Nat):okS a (apn m)/\(lastT a (apn m)).kind≠7:=by
 match m with
 |0=>exact⟨⟨ab3,by decide+kernel,NQ ha (.inl he) (by unfold closes;omega),trivial⟩,show(31:Int)≠7 by decide⟩
 |1=>exact⟨⟨ab3,by decide+kernel,NQ ha (.inl he) (by unfold closes;omega),YI _ _ (by decide+kernel)⟩,show(31:Int)≠7 by decide⟩
 |n+2=>exact⟨⟨ab3,by decide+kernel,NQ ha (.inl he) (by unfold closes;omega),YI _ _ (by decide+kernel)⟩,show(1:Int)≠7 by decide⟩
def aJV{b:Tk}(hb:iR b.kind b.text=true)(hg:beg b.kind)(h5:b.kind≠5)(m:Nat):okS (tok 33) (inG m b)/\∀a,lastT a (inG m b)=b:=by
 have g1:adj (tok 33) [32] b:=afM (by decide) (by decide) (by decide) (λe=>absurd e h5) (λe=>absurd e (by unfold beg at hg;omega))
 match m with
 |0=>exact⟨⟨ahY,hb,g1,trivial⟩,λ_=>rfl⟩
 |1=>exact⟨⟨ahY,by decide+kernel,aiZ (by decide+kernel),ab3,hb,afL (by unfold opn;omega) hg (λ_=>h5),trivial⟩,λ_=>rfl⟩
 |n+2=>refine⟨⟨ahY,by decide+kernel,aiZ (by decide+kernel),ab3,by decide+kernel,aiZ (by decide+kernel),ab3,hb,⟨λ_=> ?_,λe=>absurd e (by decide),λe=>absurd e (by decide),λe=>absurd e h5,λe=>absurd e (show¬(b.kind=58\/b.kind=41) by unfold beg at hg;omega)⟩,trivial⟩,λ_=>rfl⟩;rw[NM];cases nlT.text==[]<;>cases b.text==[]<;>rfl
def auI{d:Tn}{T:List Tk}{b:Tk}{R:List Gt}(h:Pe d T b R)(h5:b.kind≠5)(hd m:Nat):okS ⟨0,[],0⟩ (Uk hd m b R)/\(lastT ⟨0,[],0⟩ (Uk hd m b R)).kind≠7:=by obtain⟨p1,p2⟩:=aJT hd;obtain⟨i1,i2⟩:=aJV h.ok h.beg h5 m;obtain⟨e1,e2⟩:=aJU h.lok h.last m;unfold Uk;rw[Pz,Pz,Pz,BK,BK,BK,p2,i2];exact⟨⟨p1,i1,h.all,e1⟩,e2⟩
def aFs{d:Tn}{T:List Tk}{b:Tk}{R:List Gt}(h:Pe d T b R)(h5:b.kind≠5)(hd m:Nat)(hs:(spl (Uk hd m b R)).length<=3000):aeA (spl (Uk hd m b R))=(VE (Uk hd m b R) 0,0,0):=
 aAF (auI h h5 hd m).1 (λ_=>(auI h h5 hd m).2) hs
def aA1:∀(L:List Gt) (pre:List Tk) (i:Nat),Mt (pre++VE L i) pre.length (L.map (·.2))
 |[],pre,i=>trivial
 |x::r,pre,i=>by rw[zmc,qK,VE];have h:=aA1 r (pre++[⟨x.2.kind,x.2.text,((i+x.1.length:Nat):Int)⟩]) (i+x.1.length+x.2.text.length);rw[Qc,List.singleton_append,wM,GK] at h;refine⟨?_,h⟩;simp[aP,Bv]
def apo:∀(L:List Gt) (i:Nat),(VE L i).length=L.length
 |[],_=>rfl
 |x::r,i=>by rw[VE,yS,apo r,yS]
def aG1:∀(L:List Gt) (i:Nat),(VE L i).map (·.kind)=L.map (·.2.kind)
 |[],_=>rfl
 |x::r,i=>by rw[VE,zmc,aG1 r,zmc]
variable {l:List Tk}
def aso{i:Nat}(h:aP l i=1\/aP l i=37)(nt:jf):sep l i nt=sep l (i+1) nt:=by obtain⟨t,e,ht⟩:=drop_at (l:=l) (i:=i) rfl (show aP l i≠0 by omega);unfold sep;rw[e,ab2,ht];rcases h with h|h<;>rw[h]<;>rfl
def Y9{i:Nat}(h:aP l i≠1/\aP l i≠37/\aP l i≠2)(nt:jf):sep l i nt=(i,nt):=by
 unfold sep;unfold aP at h;cases ht:l[i]? with
 |none=>rw[List.getElem?_eq_none_iff] at ht;rw[List.drop_eq_nil_of_le ht,ab2]
 |some t=>rw[ht] at h;simp only at h;have hl:=NV.1 ht;rw[List.drop_eq_getElem_cons hl.1,hl.2,ab2,mX.2 h.1,mX.2 h.2.1,mX.2 h.2.2];rfl
def aFt{i:Nat}(h:aP l i≠1/\aP l i≠2)(nt:jf):nl l i nt=(i,nt):=apl h nt 0 i ak ⟨zaQ _,λk h1 h2=>by omega⟩
def ak8{a b:Int}(h:a≠b):(a==b)=false:=mX.2 h
def aJW{a b:Int}(h:a=b):(a==b)=true:=beq_iff_eq.2 h
def Ul{k:Int}{i:Nat}{nt:jf}(h:aP l i=k):lU l k i nt=.ok () (i+1) nt:=by rw[lU,aJW h,aG]
def ag7{i j:Nat}{t:Tn}{hh:Bool}(hex:∀nt,KO (λn=>ex l n 1 false false i nt) (.ok (t,hh) j nt))(hb:bgE (aP l i))(he:Wp (aP l j)=true)(nt:jf):KO (λn=>stP l n i nt) (.ok (.mk 20 0 [] [] [t]) j nt):=by
 have z:∀c:Int,c=30\/(9<=c/\c<=26)->(aP l i==c)=false:=λc hc=>ak8 (by unfold bgE at hb;omega)
 have hs:KO (λn=>aus l n i nt) (.ok (.mk 20 0 [] [] [t]) j nt):=by
  refine bK (fO (g:=λn x i nt=>PR.ok (Tn.mk 20 0 [] [] [x.1]) i nt) (hex nt) (iD _)) λn=> ?_
  rw[aus,z 25 ak,z 26 ak,z 20 ak,z 18 ak,z 19 ak,z 21 ak,z 22 ak,z 23 ak];rfl
 refine iF (bK (fO (g:=λn x i nt=>endP l x i nt) hs (r:=.ok (.mk 20 0 [] [] [t]) j nt) ?_) λn=> ?_)
 ·rw[endP,he];exact iD _
 ·rw[stP,z 30 ak,z 13 ak,z 15 ak,z 17 ak,z 16 ak];rfl
def aFu{L:List Tn}{i j:Nat}(hs:sep l i []=(j,[]))(hk:aP l j=31):KO (λn=>aeD l n L i []) (.ok L (j+1) []):=by refine iF (bK (iD _) λn=> ?_);rw[aeD,hs];simp only[hk,Y8,List.map_nil,List.append_nil];rfl
def ak9{i i' j m:Nat}{s:Tn}(h30:aP l i=30)(hs:sep l (i+1) []=(i',[]))(h31:aP l i'≠31)(h0:aP l i'≠0)(st:KO (λn=>stP l n i' []) (.ok s j []))(he:sep l j []=(m,[]))(hk:aP l m=31):
  KO (λn=>Vk l n i []) (.ok (.mk 33 0 [] [] [s]) (m+1) []):=by
 have hl:KO (λn=>aeD l n [] (i+1) []) (.ok [s] (m+1) []):=by refine iF (bK (fO (g:=λn s i nt=>aeD l n ([]++[s]) i nt) st (aFu he hk)) λn=> ?_);rw[aeD,hs];simp only[ak8 h31,ak8 h0,aQ,Y8,List.map_nil,List.append_nil]
 refine iF (bK (fO (g:=λn L i nt=>PR.ok (Tn.mk 33 0 [] [] L) i nt) hl (iD _)) λn=> ?_);rw[Vk,Ul h30];rfl
def aA2{i j:Nat}{s:Tn}(hb:bgE (aP l i))(st:KO (λn=>stP l n i []) (.ok s j [])):KO (λn=>E9 l n i []) (.ok (.mk 33 0 [] [] [s]) j []):=by
 have z:∀c:Int,c=1\/c=2\/c=30\/c=37->aP l i≠c:=λc hc=>by unfold bgE at hb;omega
 refine iF (bK (fO (g:=λn s i nt=>PR.ok (Tn.mk 33 0 [] [] [s]) i nt) st (iD _)) λn=> ?_);rw[E9,aFt ⟨z 1 ak,z 2 ak⟩];simp only[ak8 (z 30 ak),ak8 (z 37 ak),aQ,Y8,List.map_nil,List.nil_append]
def asq{i j:Nat}{b:Tn}(h30:aP l i=30)(h:KO (λn=>Vk l n i []) (.ok b j [])):KO (λn=>E9 l n i []) (.ok b j []):=by refine iF (bK h λn=> ?_);rw[E9,aFt ⟨ak,ak⟩];simp only[aJW h30,aG]
def vU(h:Nat)(b:Tn):Tn:=match h with
 |0=> .mk 28 0 [] [] [.mk 1 0 [120] [] [],b]
 |1=> .mk 29 0 [] [] [.mk 1 0 [120] [] [],b]
 |2=> .mk 31 0 [] [] [.mk 16 0 [] [] [],.mk 16 0 [] [] [],.mk 16 0 [] [] [],b]
 |_=> .mk 32 0 [107] [97] [b]
def ai0{t:Tn}(h:Wq t)(he:PW t){i j:Nat}(hm:Mt l i (lu t .top))(hj:j=i+(lu t .top).length)(hk:Stp 1 false false (aP l j)):bgE (aP l i)/\∃hh,∀nt,KO (λn=>ex l n 1 false false i nt) (.ok (t,hh) j nt):=by subst hj;obtain⟨hh,hd⟩:=aFq h he (p:=.top) rfl hm;have hr:=aG0 hd rfl;exact⟨hr.1.fst.bg,hh,λnt=>aFo (p:=.top) hd rfl rfl hk nt⟩
def awp{k:Int}(h:k=33\/k=31\/k=37):Stp 1 false false k:=by
 have h0:iT k=0:=by rcases h with h|h|h<;>subst h<;>rfl
 refine⟨λ_=> ?_,λ_=>by omega,λm hm e=>by omega,λ_ _=>by omega,λ_=> ?_,λ_=> ?_,ak⟩
 all_goals rcases h with h|h|h<;>subst h<;>rfl
def aRU{i:Nat}{x:aC}(hx:DY x=true)(hm:Mt l i [nmT x])(hk:aP l (i+1)=33):∃hh,∀nt,KO (λn=>ex l n 1 false false i nt) (.ok (.mk 1 0 x [] [],hh) (i+1) nt):=
 (ai0 (t:=.mk 1 0 x [] []) (by rw[Wq];exact⟨.name hx,trivial⟩) (by simp[PW,Tn.kind]) (by exact hm) rfl (awp (.inl hk))).2
def awq{i:Nat}(hm:Mt l i [tok 32,nmT [120],tok 33])(nt:jf):KO (λn=>adD l n i nt) (.ok (.mk 1 0 [120] [] []) (i+3) nt):=by
 obtain⟨⟨h1,_⟩,h2,⟨h3,_⟩,_⟩:=hm;obtain⟨hh,hx⟩:=aRU (x:=[120]) (by decide+kernel) (l:=l) (i:=i+1) ⟨h2,trivial⟩ h3;refine bK (fO (g:=λn x i nt=>(lU l 33 i nt).bind λ_ i nt=>PR.ok x.1 i nt) (hx nt) (r:=.ok (.mk 1 0 [120] [] []) (i+3) nt) ?_) λn=> ?_
 ·rw[Ul (k:=33) (i:=i+1+1) h3];exact iD _
 ·rw[adD,Ul (k:=32) h1];rfl
def aFv{h:Nat}{i j j':Nat}{b:Tn}(hm:Mt l i ((awo h).map (·.2)))(hb:KO (λn=>E9 l n (i+(awo h).length) []) (.ok b j []))(hs:sep l j []=(j',[]))(hk:aP l j'=31):KO (λn=>stP l n i []) (.ok (vU h b) j []):=by
 match h with
 |0=>
  obtain⟨⟨h1,_⟩,h2⟩:=hm;refine iF (bK (fO (g:=λn x i nt=>(E9 l n i nt).bind λy i nt=>(let q:=sep l i nt
    bif aP l q.1==14 then(E9 l n (q.1+1) q.2).bind λz i nt=> .ok (.mk 28 0 [] [] [x,y,z]) i nt else .ok (.mk 28 0 [] [] [x,y]) i nt)) (awq h2 []) (fO hb ?_)) λn=> ?_)
  ·rw[hs];simp only[hk];exact iD _
  ·rw[stP];simp only[h1,tok];rfl
 |1=>obtain⟨⟨h1,_⟩,h2⟩:=hm;refine iF (bK (fO (g:=λn x i nt=>(E9 l n i nt).bind λy i nt=>PR.ok (.mk 29 0 [] [] [x,y]) i nt) (awq h2 []) (fO hb (iD _))) λn=> ?_);rw[stP];simp only[h1,tok];rfl
 |2=>obtain⟨⟨h1,_⟩,⟨h2,_⟩,⟨h3,_⟩,⟨h4,_⟩,⟨h5,_⟩,_⟩:=hm;refine iF (bK (fO (g:=λn w i nt=>PR.ok (vU 2 w) i nt) hb (iD _)) λn=> ?_);have h2:aP l (i+1)=32:=h2;have h3:aP l (i+1+1)=37:=h3;have h4:aP l (i+1+1+1)=37:=h4;have h5:aP l (i+1+1+1+1)=33:=h5;have k4:=aFt (l:=l) (i:=i+1+1+1) ⟨ak,ak⟩ [];have k5:=aFt (l:=l) (i:=i+1+1+1+1) ⟨ak,ak⟩ [];rw[stP];simp only[h1,tok,Int.reduceBEq,aG,aQ,Ul h2,PR.bind,h3,Bool.false_and,Vj,Ul h3,k4,h4,Ul h4,k5,h5,Ul h5];rfl
 |n+3=>obtain⟨⟨h1,_⟩,⟨h2,_⟩,⟨h3,h3'⟩,⟨h4,_⟩,⟨h5,h5'⟩,⟨h6,_⟩,_⟩:=hm;refine iF (bK (fO (g:=λn w i nt=>PR.ok (vU 3 w) i nt) hb (iD _)) λn=> ?_);have h2:aP l (i+1)=32:=h2;have h3:aP l (i+1+1)=6:=h3;have h3':Bv l (i+1+1)=[107]:=h3';have h4:aP l (i+1+1+1)=24:=h4;have h5:aP l (i+1+1+1+1)=6:=h5;have h5':Bv l (i+1+1+1+1)=[97]:=h5';have h6:aP l (i+1+1+1+1+1)=33:=h6;rw[stP];simp only[h1,tok,Int.reduceBEq,aG,aQ,Ul h2,PR.bind,h3,h4,Bool.and_self,nameP,h5,h5',h3',Ul h6];rfl
def bodyT(h:Nat)(t:Tn):List Tn:=[.mk 40 0 [] [] [.mk 33 0 [] [] [vU h (.mk 33 0 [] [] [.mk 20 0 [] [] [t]])]]]
def apq{h:Nat}{j j' m:Nat}{b:Tn}(hm:Mt l 0 ((Js h).map (·.2)))(hb:KO (λn=>E9 l n (Js h).length []) (.ok b j []))(hs:sep l j []=(j',[]))(hk:aP l j'=31)(he:sep l (j'+1) []=(m,[]))(h0:aP l m=0):
  ∃q,KO (λn=>Vl l n [] 0 []) (.ok [.mk 40 0 [] [] [.mk 33 0 [] [] [vU h b]]] q []):=by
 obtain⟨⟨h1,_⟩,⟨h2,_⟩,hh⟩:=hm;have h1:aP l 0=10:=h1;have h2:aP l 1=30:=h2;have hk2:aP l 2≠1/\aP l 2≠37/\aP l 2≠2/\aP l 2≠31/\aP l 2≠0:=by
  match h with
  |0=>have:aP l 2=13:=hh.1.1
      omega
  |1=>have:aP l 2=15:=hh.1.1
      omega
  |2=>have:aP l 2=16:=hh.1.1
      omega
  |n+3=>have:aP l 2=16:=hh.1.1
        omega
 have e2:(Js h).length=2+(awo h).length:=by simp only[Js,yS];omega
 rw[e2] at hb;have hst:=aFv (h:=h) hh hb hs hk;have hbl:=ak9 h2 (Y9 ⟨hk2.1,hk2.2.1,hk2.2.2.1⟩ []) hk2.2.2.2.1 hk2.2.2.2.2 hst hs hk;have hit:KO (λn=>adE l n 0 []) (.ok (.mk 40 0 [] [] [.mk 33 0 [] [] [vU h b]]) (j'+1) []):=by
  refine bK (fO (g:=λn b i nt=>PR.ok (Tn.mk 40 0 [] [] [b]) i nt) hbl (iD _)) λn=> ?_
  rw[adE,aJW h1];rfl
 have hend:KO (λn=>Vl l n [.mk 40 0 [] [] [.mk 33 0 [] [] [vU h b]]] (j'+1) []) (.ok [.mk 40 0 [] [] [.mk 33 0 [] [] [vU h b]]] m []):=by refine iF (bK (iD _) λn=> ?_);rw[Vl,he];simp only[h0,Y8,List.map_nil,List.append_nil];rfl
 refine⟨m,iF (bK (fO (g:=λn s i nt=>Vl l n [s] i nt) hit hend) λn=> ?_)⟩;rw[Vl,Y9 ⟨ak,ak,ak⟩];simp only[h1,Y8,List.map_nil,List.append_nil,List.nil_append];rfl
def aJX{h m:Nat}{t:Tn}{b:Tk}{R:List Gt}(hr:Wq t)(he:PW t)(hT:b::R.map (·.2)=lu t .top)(hl:l=VE (Uk h m b R) 0):∃q,KO (λn=>Vl l n [] 0 []) (.ok (bodyT h t) q []):=by
 have hm:Mt l 0 ((Uk h m b R).map (·.2)):=by rw[hl];exact aA1 (Uk h m b R) [] 0
 have hend:∀i,(Uk h m b R).length<=i->aP l i=0:=λi hi=>by rw[aP,List.getElem?_eq_none (by rw[hl,apo];exact hi)]
 unfold Uk at hm hend;simp only[List.map_append,KJ,zaR,Nat.zero_add] at hm;obtain⟨m1,m2,m3,m4⟩:=hm;have hel:(lu t .top).length=R.length+1:=by rw[<-hT];simp
 match m with
 |0=>
  have hx:Mt l (Js h).length (lu t .top):=by rw[<-hT];exact⟨m2.1,m3⟩
  have k1:aP l ((Js h).length+(lu t .top).length)=31:=by have:=m4.1.1;rw[hel];exact(congrArg (aP l) (by simp[inG];omega)).trans this
  obtain⟨hb,hh,hex⟩:=ai0 hr he hx rfl (awp (.inr (.inl k1)));have hs:=ag7 hex hb (by rw[k1];rfl) [];refine apq m1 (aA2 hb hs) (Y9 ⟨ak,ak,ak⟩ []) k1 (Y9 ?_ []) ?_<;>rw[hend _ (by simp[inG,apn];omega)]<;>decide
 |1=>
  have h30:aP l (Js h).length=30:=m2.1.1;have hx:Mt l ((Js h).length+1) (lu t .top):=by rw[<-hT];exact⟨m2.2.1,by exact m3⟩
  have k1:aP l ((Js h).length+1+(lu t .top).length)=31:=by have:=m4.1.1;rw[hel];exact(congrArg (aP l) (by simp[inG];omega)).trans this
  have k2:aP l ((Js h).length+1+(lu t .top).length+1)=31:=by have:=m4.2.1.1;rw[hel];exact(congrArg (aP l) (by simp[inG];omega)).trans this
  obtain⟨hb,hh,hex⟩:=ai0 hr he hx rfl (awp (.inr (.inl k1)));have hs:=ag7 hex hb (by rw[k1];rfl) [];have hb':=hb;unfold bgE at hb';have hbl:=ak9 h30 (Y9 ⟨ak,ak,ak⟩ []) ak ak hs (Y9 ⟨ak,ak,ak⟩ []) k1;refine apq m1 (asq h30 hbl) (Y9 ⟨ak,ak,ak⟩ []) k2 (Y9 ?_ []) ?_<;>rw[hend _ (by simp[inG,apn];omega)]<;>decide
 |n+2=>
  have h30:aP l (Js h).length=30:=m2.1.1;have hn:aP l ((Js h).length+1)=1:=m2.2.1.1;have hx:Mt l ((Js h).length+2) (lu t .top):=by rw[<-hT];exact⟨m2.2.2.1,by exact m3⟩
  have ad:∀c:Nat,(Js h).length+2+(lu t .top).length+c=(Js h).length+(inG (n+2) b).length+R.length+c:=λc=>by rw[hel];simp[inG];omega
  have k0:aP l ((Js h).length+2+(lu t .top).length)=37:=(congrArg (aP l) (ad 0)).trans m4.1.1;have k1:aP l ((Js h).length+2+(lu t .top).length+1)=1:=(congrArg (aP l) (ad 1)).trans m4.2.1.1;have k2:aP l ((Js h).length+2+(lu t .top).length+2)=31:=(congrArg (aP l) (ad 2)).trans m4.2.2.1.1;have k3:aP l ((Js h).length+2+(lu t .top).length+3)=1:=(congrArg (aP l) (ad 3)).trans m4.2.2.2.1.1;have k4:aP l ((Js h).length+2+(lu t .top).length+4)=31:=(congrArg (aP l) (ad 4)).trans m4.2.2.2.2.1.1;have k5:aP l ((Js h).length+2+(lu t .top).length+5)=1:=(congrArg (aP l) (ad 5)).trans m4.2.2.2.2.2.1.1;have k6:aP l ((Js h).length+2+(lu t .top).length+6)=0:=hend _ (by rw[hel];simp[inG,apn];omega);obtain⟨hb,hh,hex⟩:=ai0 hr he hx rfl (awp (.inr (.inr k0)));have hs:=ag7 hex hb (by rw[k0];rfl) [];have hb':=hb;unfold bgE at hb';generalize (Js h).length+2+(lu t .top).length=E at k0 k1 k2 k3 k4 k5 k6 hs;have s0:sep l ((Js h).length+1) []=((Js h).length+2,[]):=(aso (.inl hn) []).trans (Y9 (i:=(Js h).length+2) ⟨ak,ak,ak⟩ []);have s1:sep l E []=(E+2,[]):=(aso (.inr k0) []).trans ((aso (.inl k1) []).trans (Y9 (i:=E+2) ⟨ak,ak,ak⟩ []));have s2:sep l (E+3) []=(E+4,[]):=(aso (.inl k3) []).trans (Y9 (i:=E+4) ⟨ak,ak,ak⟩ []);have s3:sep l (E+5) []=(E+6,[]):=(aso (.inl k5) []).trans (Y9 (i:=E+6) ⟨ak,ak,ak⟩ []);exact apq m1 (asq h30 (ak9 h30 s0 ak ak hs s1 k2)) s2 k4 s3 k6
def aJY(t:Tn):∀(f:Nat) (w:Bool) (p:List Nd),t.size<=f->p.length+t.size<=1048576->
  M.kE f t.kind t.op t.text t.other (dG w t.kids) (dD true p)=some (dD true (p++t.flat p.length)):=by
 refine Tn.ind (P:=λt=>∀(f:Nat) (w:Bool) (p:List Nd),t.size<=f->p.length+t.size<=1048576->M.kE f t.kind t.op t.text t.other (dG w t.kids) (dD true p)=some (dD true (p++t.flat p.length))) ?_ t;intro k op x y ks ih f w p hf hp;cases f with
 |zero=>rw[Tn.size] at hf;omega
 |succ f=>
  rw[Tn.size] at hf hp;have hkl:=BN ks;simp only[yH,M.kE,M.He,Tn.kids,Tn.kind,Tn.op,Tn.text,Tn.other,dh];have hrec:∀j t,ks[j]? =some t->M.kE f t.kind t.op t.text t.other (dG w t.kids) (dD true (p++jU (ks.take j) p.length))=some (dD true (p++jU (ks.take (j+1)) p.length)):=by
   intro j t hj;have hst:=Nh hj;have hfl:(p++jU (ks.take j) p.length).length=p.length+sizes (ks.take j):=by rw[wM,oz]
   have:=ih t (WW hj) f w (p++jU (ks.take j) p.length) ak (by rw[hfl];omega);rw[this,hfl,aeu hj,Qc]
  have hloop:=vW (b:=M.wL (M.kE f))
   (t:=if ks=[] then .inl (dG w ks,(ks.length:Int),0,dD true p,k,op,x,y) else .inr (dG w ks,(ks.length:Int),(ks.length:Int),dD true (p++jU ks p.length),k,op,x,y,encI (ends ks p.length)))
   (λj=>if j=0 then .inl (dG w ks,(ks.length:Int),0,dD true p,k,op,x,y) else .inr (dG w ks,(ks.length:Int),(j:Int),dD true (p++jU (ks.take j) p.length),k,op,x,y,encI (ends (ks.take j) p.length))) ks.length
   (by
    intro j hj;obtain⟨t,ht⟩:∃t,ks[j]? =some t:=⟨ks[j],by simp⟩
    have hr:=hrec j t ht;have hst:=Nh ht;have hp1:=t.size_pos;have hg:(dG w ks)[j]? =some (t.row w):=by rw[Xn];simp[ht]
    have hc0:jR .i64 (t.row w) 0=some t.kind:=by cases t;rfl
    have hc1:jR .i64 (t.row w) 1=some t.op:=by cases t;rfl
    have hc2:cStr (t.row w) 2=some t.text:=by cases t;rfl
    have hc3:cStr (t.row w) 3=some t.other:=by cases t;rfl
    have hc4:cSl 5 (t.row w) 4=some (dG w t.kids):=by cases t;rfl
    have hfl:(dD true (p++jU (ks.take (j+1)) p.length)).length=p.length+sizes (ks.take j)+t.size:=by rw[fP,wM,oz,qW ht,nH,sizes,sizes];omega
    rw[if_neg (show¬j+1=0 by omega),agU ht]
    by_cases h0:j=0
    ·subst h0;rw[if_pos rfl];have hi:idx (dG w ks) 0=some (t.row w):=by have:=dn (dG w ks) 0;rw[MW] at this;rw[this,hg]
     have hr0:M.kE f t.kind t.op t.text t.other (dG w t.kids) (dD true p)=some (dD true (p++jU (ks.take (0+1)) p.length)):=by rw[<-hr];simp[jU]
     simp only[yH,M.wL,M.rX,hi,ah,hc0,hc1,hc2,hc3,hc4,hr0,hfl];rw[zdt ak,aG,aS ak ak,aS ak ak];rfl
    ·rw[if_neg h0];simp only[yH,M.wL,M.rX,dn,hg,ah,hc0,hc1,hc2,hc3,hc4,hr,hfl,eH,jr,zlt,GK];rw[zdt ak,aG,bC ak,aG,bC ak,aG,aS ak ak,aS ak ak];simp[encI])
   (by
    by_cases h0:ks.length=0
    ·have he:ks=[]:=List.length_eq_zero_iff.1 h0;rw[if_pos h0,if_pos he];simp only[yH,M.wL,M.rX];rw[vG ak,aQ]
    ·have he:¬ks=[]:=λe=>h0 (by rw[e];rfl)
     rw[if_neg h0,if_neg he,List.take_length];simp only[yH,M.wL,M.rX];rw[vG ak,aQ]) 0 (Nat.zero_le _)
  rw[if_pos rfl] at hloop;rw[M.J8,hloop,ah]
  by_cases he:ks=[]
  ·rw[if_pos he];subst he;simp only[jX,fP,GK];rw[bC ak,aG,bC ak,aG,Kt];rfl
  ·rw[if_neg he];simp only[jX,letE,fP,wM,oz,GK,Ez,aG];rw[bC ak,aG,bC ak,aG,Tn.flat,<-Qc];simp only[Kt];rfl
def aFw{t:Tn}{w:Bool}(h:t.size<=1048576):M.oZ t.kind t.op t.text t.other (dG w t.kids)=some (dD true (t.flat 0)):=by have:=M.agR (aJY t t.size w [] (zaQ _) (by simpa using h));simp only[M.oZ,M.J9];have e:dD true ([]:List Nd)=[]:=rfl;rw[e] at this;rw[this,ah];simp
def wK:List Nd->Nat
 |[]=>0
 |n::l=>4+n.kids.length+wK l
def aeF:∀l:List Nd,KP (dD true l)=true
 |[]=>rfl
 |n::l=>by have:dD true (n::l)=PO true n::dD true l:=rfl;rw[this,KP,aeF l];simp[PO,dw,D.pure]
def abE(l:List Nd):[[D.sl true 5 (dD true l)]].all dw=true:=by simp[dw,D.pure,aeF]
variable {l:List Tk}
def fE{i:Nat}{k:Int}(e:(aP l i==k)=true)(hk:k≠0):i<l.length:=jH (by rw[beq_iff_eq] at e;rw[e];exact hk)
def ala{k:Int}(h:Py k=true):k≠0:=by rintro rfl;exact absurd h (by decide)
section
variable {α β:Type} {P Q:α->Nat->jf->Prop} {R:β->Nat->jf->Prop} {x y:PR α} {f:α->Nat->jf->PR β} {c:Bool}
def eF:(x.bind f).sat R↔x.sat λa i nt=>(f a i nt).sat R:=by cases x<;>exact Iff.rfl
def bF(h:x.sat P)(k:∀a i nt,P a i nt->Q a i nt):x.sat Q:=by
 cases x with
 |ok a i nt=>exact k a i nt h
 |bad _=>trivial
 |out=>trivial
def dY:(bif c then x else y).sat P↔(c=true->x.sat P)/\(c=false->y.sat P):=by cases c<;>simp
def ql{a:α}{i:Nat}{nt:jf}(h:x.sat P)(e:x=.ok a i nt):P a i nt:=by rw[e] at h;exact h
end
variable {l:List Tk}
def Ba{P:Unit->Nat->jf->Prop}{k:Int}{i:Nat}{nt:jf}:(lU l k i nt).sat P↔(aP l i=k->P () (i+1) nt):=by unfold lU;rw[dY];simp[PR.sat]
def XQ{P:aC->Nat->jf->Prop}{i:Nat}{nt:jf}:(nameP l i nt).sat P↔(aP l i=6->P (Bv l i) (i+1) nt):=by unfold nameP;rw[dY];simp[PR.sat]
abbrev FN(l:List Tk)(i n0 j n:Nat):Prop:=i<=j/\j<=l.length/\n+i<=n0+j
abbrev FE(l:List Tk)(i n0 s j n:Nat):Prop:=i<j/\j<=l.length/\n+i<=n0+j/\s+2 * i+1<=2 * j
def apr:∀(r:List Tk) (i:Nat) (nt:jf),i<=(nlR r i nt).1/\(nlR r i nt).1<=i+r.length/\(nlR r i nt).2.length+i<=nt.length+(nlR r i nt).1
 |[],i,nt=>by rw[nlR];exact⟨zaQ _,zaQ _,zaQ _⟩
 |t::r,i,nt=>by
  rw[nlR,yS];cases t.kind==1<;>cases t.kind==2<;>simp only[aG,aQ]
  ·omega
  ·have:=apr r (i+1) (nt++[t.text]);rw[wM,GK] at this;omega
  ·have:=apr r (i+1) nt;omega
  ·have:=apr r (i+1) nt;omega
def NR{i:Nat}{nt:jf}(h:i<=l.length):FN l i nt.length (nl l i nt).1 (nl l i nt).2.length:=by have:=apr (l.drop i) i nt;rw[List.length_drop] at this;unfold nl;omega
def ai1:∀(r:List Tk) (i:Nat) (nt:jf),i<=(ab2 r i nt).1/\(ab2 r i nt).1<=i+r.length/\(ab2 r i nt).2.length+i<=nt.length+(ab2 r i nt).1
 |[],i,nt=>by rw[ab2];exact⟨zaQ _,zaQ _,zaQ _⟩
 |t::r,i,nt=>by
  rw[ab2,yS];cases(t.kind==1||t.kind==37)<;>cases t.kind==2<;>simp only[aG,aQ]
  ·omega
  ·have:=ai1 r (i+1) (nt++[t.text]);rw[wM,GK] at this;omega
  ·have:=ai1 r (i+1) nt;omega
  ·have:=ai1 r (i+1) nt;omega
def aeG{i:Nat}{nt:jf}(h:i<=l.length):FN l i nt.length (sep l i nt).1 (sep l i nt).2.length:=by have:=ai1 (l.drop i) i nt;rw[List.length_drop] at this;unfold sep;omega
structure aRV(l:List Tk)(n:Nat):Prop where
 ex:∀lv a b i nt,1<=lv->lv<=15->i<=l.length->(ex l n lv a b i nt).sat λx j m=>FE l i nt.length x.1.size j m.length
 ch:∀lv a b x i nt,3<=lv->lv<=10->i<=l.length->(chP l n lv a b x i nt).sat λy j m=>FN l i nt.length j m.length/\y.1.size+2 * i<=x.1.size+2 * j
 inp:∀a x i nt,i<=l.length->(inP l n a x i nt).sat λy j m=>FN l i nt.length j m.length/\y.1.size+2 * i<=x.1.size+2 * j
 pre:∀i nt,i<l.length->(afK l n i nt).sat λx j m=>FE l i nt.length x.1.size j m.length
 lst:∀e i nt,e≠0->i<=l.length->(WM l n e i nt).sat λL j m=>FE l i nt.length (sizes L) j m.length
 it:∀a b L i nt,i<=l.length->(WO l n a b L i nt).sat λL' j m=>i<j/\FN l i nt.length j m.length/\sizes L'+2 * i+1<=sizes L+2 * j
def Za(k o:Int)(x y:aC)(t:Tn):(Tn.mk k o x y [t]).size=t.size+1:=by simp only[Tn.size,sizes,Nat.add_zero]
def size2(k o:Int)(x y:aC)(t u:Tn):(Tn.mk k o x y [t,u]).size=t.size+u.size+1:=by simp only[Tn.size,sizes,Nat.add_zero]
def size3(k o:Int)(x y:aC)(t u v:Tn):(Tn.mk k o x y [t,u,v]).size=t.size+u.size+v.size+1:=by simp only[Tn.size,sizes,Nat.add_zero];omega
def aRW(k o:Int)(x y:aC)(t u v w:Tn):(Tn.mk k o x y [t,u,v,w]).size=t.size+u.size+v.size+w.size+1:=by simp only[Tn.size,sizes];omega
def Zb(k o:Int)(x y:aC)(L:List Tn):(Tn.mk k o x y L).size=sizes L+1:=by rw[Tn.size]
def ah0(k o:Int)(x y:aC):(Tn.mk k o x y []).size=1:=by rw[Tn.size,sizes]
def sizes1(L:List Tn)(t:Tn):sizes (L++[t])=sizes L+t.size:=by rw[nH,sizes,sizes];omega
section
variable {n:Nat} (h:aRV l n)
include h
theorem aFx(lv:Nat)(a b:Bool)(i:Nat)(nt:jf)(h1:1<=lv)(h2:lv<=15)(hi:i<=l.length):(ex l (n+1) lv a b i nt).sat λx j m=>FE l i nt.length x.1.size j m.length:=by
 have hlt:∀{j:Nat} {k:Int},(aP l j==k)=true->k≠0->j<l.length:=λe hk=>jH (by rw[beq_iff_eq] at e;rw[e];exact hk)
 have hc:lv=1\/lv=2\/lv=3\/lv=4\/lv=5\/lv=6\/lv=7\/lv=8\/lv=9\/lv=10\/lv=11\/lv=12\/lv=13\/lv=14\/lv=15:=ak;rcases hc with rfl|rfl|rfl|rfl|rfl|rfl|rfl|rfl|rfl|rfl|rfl|rfl|rfl|rfl|rfl<;>simp only[ex,eF]
 ·refine bF (h.ex 2 a b i nt ak ak hi) λx j m hj=> ?_
  rw[dY];refine⟨λhc=> ?_,λ_=>hj⟩;rw[rZ] at hc;have:=jH (aAz hc.2);rw[eF];exact bF (h.ex 1 a b (j+1) m ak ak ak) λy j' m' hj'=>by show FE l i nt.length (Tn.size _) j' m'.length;rw[size2];omega
 ·refine bF (h.ex 3 a b i nt ak ak hi) λx j m hj=> ?_
  rw[dY];refine⟨λhc=> ?_,λ_=>hj⟩;have:=hlt hc (by decide);simp only[eF,Ba];refine bF (h.ex 2 a b (j+1) m ak ak ak) λy j2 m2 hj2=>λhk=> ?_
  have:=jH (l:=l) (i:=j2) (by rw[hk];decide);exact bF (h.ex 2 a b (j2+1) m2 ak ak ak) λz j3 m3 hj3=>by show FE l i nt.length (Tn.size _) j3 m3.length;rw[size3];omega
 ·refine bF (h.ex 4 a b i nt ak ak hi) λx j m hj=> ?_
  exact bF (h.ch 3 a b x j m ak ak ak) λy j' m' hj'=>by omega
 ·refine bF (h.ex 5 a b i nt ak ak hi) λx j m hj=> ?_
  exact bF (h.ch 4 a b x j m ak ak ak) λy j' m' hj'=>by omega
 ·rw[dY];refine⟨λhc=> ?_,λ_=> ?_⟩
  ·rw[rZ,rZ] at hc;have:=hlt hc.1.1 (by decide);simp only[eF,Ba,XQ];refine bF (h.lst 33 (i+1) nt (by decide) ak) λL j m hj=>λh24 h6=> ?_
   have:=jH (l:=l) (i:=j) (by rw[h24];decide);have:=jH (l:=l) (i:=j+1) (by rw[h6];decide);exact bF (h.inp a _ (j+1+1) m ak) λy j' m' hj'=>by rw[Zb] at hj';omega
  ·rw[eF];refine bF (h.ex 6 a b i nt ak ak hi) λx j m hj=> ?_
   exact bF (h.inp a x j m ak) λy j' m' hj'=>by omega
 ·refine bF (h.ex 7 a b i nt ak ak hi) λx j m hj=> ?_
  rw[dY];refine⟨λhc=> ?_,λ_=>hj⟩;have:j<l.length:=by rw[Bool.or_eq_true] at hc;rcases hc with hc|hc<;>exact hlt hc (by decide)
  rw[eF];exact bF (h.ex 7 a b (j+1) m ak ak ak) λy j' m' hj'=>by show FE l i nt.length (Tn.size _) j' m'.length;rw[size2];omega
 ·refine bF (h.ex 8 a b i nt ak ak hi) λx j m hj=> ?_
  rw[dY];refine⟨λhc=> ?_,λ_=>hj⟩;have:=jH (ape ak hc);rw[eF];exact bF (h.ex 8 a b (j+1) m ak ak ak) λy j' m' hj'=>by show FE l i nt.length (Tn.size _) j' m'.length;rw[size2];omega
 ·refine bF (h.ex 9 a b i nt ak ak hi) λx j m hj=> ?_
  exact bF (h.ch 8 a b x j m ak ak ak) λy j' m' hj'=>by omega
 ·refine bF (h.ex 10 a b i nt ak ak hi) λx j m hj=> ?_
  exact bF (h.ch 9 a b x j m ak ak ak) λy j' m' hj'=>by omega
 ·refine bF (h.ex 11 a b i nt ak ak hi) λx j m hj=> ?_
  exact bF (h.ch 10 a b x j m ak ak ak) λy j' m' hj'=>by omega
 ·rw[dY];refine⟨λhc=> ?_,λ_=>h.ex 12 a b i nt ak ak hi⟩;have:i<l.length:=by simp only[Bool.or_eq_true] at hc;rcases hc with hc|hc|hc<;>exact hlt hc (by decide)
  rw[eF];exact bF (h.ex 11 a b (i+1) nt ak ak ak) λy j' m' hj'=>by show FE l i nt.length (Tn.size _) j' m'.length;rw[Za];omega
 ·refine bF (h.ex 13 a b i nt ak ak hi) λx j m hj=> ?_
  rw[dY];refine⟨λhc=> ?_,λ_=>hj⟩;have:=hlt hc (by decide);rw[eF];exact bF (h.ex 11 a b (j+1) m ak ak ak) λy j' m' hj'=>by show FE l i nt.length (Tn.size _) j' m'.length;rw[size2];omega
 ·rw[dY];refine⟨λhc=> ?_,λ_=> ?_⟩
  ·have:=jH (abC hc);exact h.pre i nt this
  ·rw[eF];refine bF (h.ex 14 a b i nt ak ak hi) λx j m hj=> ?_
   rw[dY];refine⟨λhs=> ?_,λ_=>hj⟩;rw[rZ] at hs;have:=jH (abC hs.2);show FE l i nt.length (Tn.size _) (j+1) m.length;rw[Za];omega
 ·rw[dY];refine⟨λhc=> ?_,λ_=>h.ex 15 a b i nt ak ak hi⟩;have:=hlt hc (by decide);rw[eF,dY];refine⟨λhs=> ?_,λ_=> ?_⟩
  ·have:=jH (abC hs);exact bF (h.pre (i+1) nt this) λx j m hj=>by show FE l i nt.length (Tn.size _) j m.length;rw[Za];omega
  ·exact bF (h.ex 14 a b (i+1) nt ak ak ak) λx j m hj=>by show FE l i nt.length (Tn.size _) j m.length;rw[Za];omega
 ·have asr:∀k,i<l.length->(XL k l i nt).sat λx j m=>FE l i nt.length x.1.size j m.length:=λk hl=>by show FE l i nt.length (Tn.size _) (i+1) nt.length;rw[ah0];omega
  rw[dY];refine⟨λhc=>asr 2 (hlt hc (by decide)),λ_=> ?_⟩;rw[dY];refine⟨λhc=>asr 3 (hlt hc (by decide)),λ_=> ?_⟩;rw[dY];refine⟨λhc=>asr 4 (hlt hc (by decide)),λ_=> ?_⟩;rw[dY];refine⟨λhc=> ?_,λ_=> ?_⟩
  ·have h0:=hlt hc (by decide);rw[dY];refine⟨λhd=> ?_,λ_=>asr 1 h0⟩;have:=hlt hd (by decide);simp only[eF,Ba];exact bF (h.it false false [] (i+2) nt ak) λL j m hj=>λhk=>by have:=jH (l:=l) (i:=j) (by rw[hk];decide);show FE l i nt.length (Tn.size _) (j+1) m.length;rw[Zb];have e:sizes ([]:List Tn)=0:=rfl;omega
  rw[dY];refine⟨λhc=> ?_,λ_=> ?_⟩
  ·have:i<l.length:=by rw[Bool.or_eq_true] at hc;rcases hc with hc|hc<;>exact hlt hc (by decide)
   rw[dY];refine⟨λ_=>asr 8 this,λ_=> ?_⟩;simp only[eF,Ba];intro h32;have:=jH (l:=l) (i:=i+1) (by rw[h32];decide);exact bF (h.lst 33 (i+1+1) nt (by decide) ak) λL j m hj=>by show FE l i nt.length (Tn.size _) j m.length;rw[Zb];omega
  rw[dY];refine⟨λhc=> ?_,λ_=>trivial⟩;have:=hlt hc (by decide);simp only[eF,Ba];exact bF (h.ex 1 false false (i+1) nt ak ak ak) λx j m hj=>λhk=>by have:=jH (l:=l) (i:=j) (by rw[hk];decide);show FE l i nt.length x.1.size (j+1) m.length;omega
theorem aFy(lv:Nat)(a b:Bool)(x:Xp)(i:Nat)(nt:jf)(h3:3<=lv)(h10:lv<=10)(hi:i<=l.length):(chP l (n+1) lv a b x i nt).sat λy j m=>FN l i nt.length j m.length/\y.1.size+2 * i<=x.1.size+2 * j:=by
 rw[chP,dY];refine⟨λhc=> ?_,λ_=>(show FN l i nt.length i nt.length/\x.1.size+2 * i<=x.1.size+2 * i by omega)⟩;have hlt:=jH (ape h3 hc);simp only;cases h8:Nat.beq lv 8 with
 |true=>
  have:=Dy h8;subst this;simp only[aG,eF];refine bF (h.ex 9 a b i nt ak ak ak) λy j m hj=> ?_
  exact bF (h.ch 8 a b _ j m ak ak ak) λy j' m' hj'=>by rw[size2] at hj';omega
 |false=>
  simp only[aQ];cases h4:Nat.ble lv 4 with
  |true=>
   simp only[aG,eF];have hg:=NR (l:=l) (i:=i+1) (nt:=nt) ak;refine bF (h.ex (lv+1) a b _ _ ak ak ak) λy j m hj=> ?_
   exact bF (h.ch lv a b _ j m ak ak ak) λy j' m' hj'=>by rw[size2] at hj';omega
  |false=>
   simp only[aQ,eF];refine bF (h.ex (lv+1) a b (i+1) nt ak ak ak) λy j m hj=> ?_
   exact bF (h.ch lv a b _ j m ak ak ak) λy j' m' hj'=>by rw[size2] at hj';omega
theorem aA3(a:Bool)(x:Xp)(i:Nat)(nt:jf)(hi:i<=l.length):(inP l (n+1) a x i nt).sat λy j m=>FN l i nt.length j m.length/\y.1.size+2 * i<=x.1.size+2 * j:=by rw[inP,dY];refine⟨λhc=> ?_,λ_=>(show FN l i nt.length i nt.length/\x.1.size+2 * i<=x.1.size+2 * i by omega)⟩;rw[eF,XQ];intro h6;have:=jH (l:=l) (i:=i+1) (by rw[h6];decide);exact bF (h.inp a _ (i+1+1) nt ak) λy j' m' hj'=>by rw[Za] at hj';omega
theorem aA4(i:Nat)(nt:jf)(hi:i<l.length):(afK l (n+1) i nt).sat λx j m=>FE l i nt.length x.1.size j m.length:=by rw[afK,dY];refine⟨λhc=> ?_,λ_=>trivial⟩;rw[eF];exact bF (h.ex 14 false false (i+1) nt ak ak ak) λy j' m' hj'=>by show FE l i nt.length (Tn.size _) j' m'.length;rw[Za];omega
theorem aA5(e:Int)(i:Nat)(nt:jf)(he:e≠0)(hi:i<=l.length):(WM l (n+1) e i nt).sat λL j m=>FE l i nt.length (sizes L) j m.length:=by
 have e0:sizes ([]:List Tn)=0:=rfl;rw[WM,dY];refine⟨λhc=> ?_,λ_=> ?_⟩
 ·have:=jH (l:=l) (i:=i) (by rw[beq_iff_eq] at hc;rw[hc];exact he);show FE l i nt.length (sizes []) (i+1) nt.length;omega
 simp only[eF,Ba];exact bF (h.it false false [] i nt hi) λL j m hj=>λhk=>by have:=jH (l:=l) (i:=j) (by rw[hk];exact he);show FE l i nt.length (sizes L) (j+1) m.length;omega
theorem aFz(a b:Bool)(L:List Tn)(i:Nat)(nt:jf)(hi:i<=l.length):(WO l (n+1) a b L i nt).sat λL' j m=>i<j/\FN l i nt.length j m.length/\sizes L'+2 * i+1<=sizes L+2 * j:=by
 rw[WO,eF];refine bF (h.ex 1 a b i nt ak ak hi) λx j m hj=> ?_
 rw[dY];refine⟨λhc=> ?_,λ_=> ?_⟩
 ·have:j<l.length:=jH (by rw[beq_iff_eq] at hc;rw[hc];decide);rw[dY];refine⟨λ_=>trivial,λ_=> ?_⟩;have hg:=NR (l:=l) (i:=j+1) (nt:=m) ak;exact bF (h.it a b _ _ _ ak) λy j' m' hj'=>by rw[sizes1] at hj';omega
 ·show i<j/\FN l i nt.length j m.length/\sizes (L++[x.1])+2 * i+1<=sizes L+2 * j;rw[sizes1];omega
end
def sats(l:List Tk):∀n,aRV l n
 |0=>⟨λ_ _ _ _ _ _ _ _=>by rw[ex];trivial,λ_ _ _ _ _ _ _ _ _=>by rw[chP];trivial,λ_ _ _ _ _=>by rw[inP];trivial,λ_ _ _=>by rw[afK];trivial,λ_ _ _ _ _=>by rw[WM];trivial,λ_ _ _ _ _ _=>by rw[WO];trivial⟩
 |n+1=>have h:=sats l n
  ⟨aFx h,aFy h,aA3 h,aA4 h,aA5 h,aFz h⟩
variable {l:List Tk}
abbrev FB(l:List Tk)(i n0 s j n:Nat):Prop:=i<j/\j<=l.length/\n+i<=n0+j/\s+n+6 * i+5<=n0+6 * j
abbrev FS(l:List Tk)(i n0 s j n:Nat):Prop:=i<j/\j<=l.length/\n+i<=n0+j/\s+n+6 * i+3<=n0+6 * j
def sizes0:sizes ([]:List Tn)=0:=rfl
def Bz(nt:jf):(Y8 nt).length=nt.length:=by rw[Y8,zaR]
def afS:∀nt:jf,sizes (Y8 nt)=nt.length
 |[]=>rfl
 |s::r=>by rw[show Y8 (s::r)=Tn.mk 34 0 s [] []::Y8 r from rfl,sizes,ah0,afS r,yS];omega
def IE{n lv i:Nat}{a b:Bool}{nt:jf}(h1:1<=lv)(h2:lv<=15)(hi:i<=l.length):(ex l n lv a b i nt).sat λx j m=>FE l i nt.length x.1.size j m.length:=(sats l n).ex lv a b i nt h1 h2 hi
def anJ{n i:Nat}{a b:Bool}{nt:jf}(hi:i<=l.length):(WO l n a b [] i nt).sat λL j m=>FE l i nt.length (sizes L) j m.length:=
 bF ((sats l n).it a b [] i nt hi) λL j m hj=>by rw[sizes0] at hj;omega
def abG{n i:Nat}{nt:jf}(hi:i<=l.length):(adD l n i nt).sat λx j m=>FE l i nt.length x.size j m.length:=by simp only[adD,eF,Ba];intro hk;have:=jH (l:=l) (i:=i) (by rw[hk];decide);exact bF (IE ak ak ak) λx j m hj=>λhk=>by have:=jH (l:=l) (i:=j) (by rw[hk];decide);show FE l i nt.length x.1.size (j+1) m.length;omega
def XR{n i:Nat}{nt:jf}{e:Int}{a:Bool}(hi:i<=l.length):(Vj l n e a i nt).sat λx j m=>FN l i nt.length j m.length/\x.size+2 * i<=2 * j+1:=by
 rw[Vj,dY];refine⟨λ_=> ?_,λ_=> ?_⟩
 ·show FN l i nt.length i nt.length/\(Tn.size _)+2 * i<=2 * i+1;rw[ah0];omega
 rw[eF];exact bF (IE ak ak hi) λx j m hj=>by show FN l i nt.length j m.length/\x.1.size+2 * i<=2 * j+1;omega
def awr{n i:Nat}{k:Int}{nt:jf}(hi:i<l.length):(anF l n k i nt).sat λx j m=>FS l i nt.length x.size j m.length:=by
 rw[anF,dY];refine⟨λ_=> ?_,λ_=> ?_⟩
 ·show FS l i nt.length (Tn.size _) (i+1) nt.length;rw[ah0];omega
 rw[eF];exact bF (IE ak ak ak) λx j m hj=>by show FS l i nt.length (Tn.size _) j m.length;rw[Za];omega
def aJZ{n i:Nat}{nt:jf}:(aAx l n i nt).sat λx j m=>FS l i nt.length x.size j m.length:=by
 rw[aAx,eF,XQ];intro h;have:=jH (l:=l) (i:=i+1) (by rw[h];decide);rw[dY];refine⟨λhc=> ?_,λ_=> ?_⟩
 ·have:=fE hc (by decide);simp only[eF,Ba];exact bF (anJ ak) λx j m hj=>λhk=>by have:=jH (l:=l) (i:=j) (by rw[hk];decide);show FS l i nt.length (Tn.size _) (j+1) m.length;rw[Zb];omega
 ·show FS l i nt.length (Tn.size _) (i+1+1) nt.length;rw[ah0];omega
def aJ0{n i:Nat}{nt:jf}(hi:i<l.length):(aur l n i nt).sat λx j m=>FS l i nt.length x.size j m.length:=by
 rw[aur,eF];have h1:(bif aP l i==26|| !(Wp (aP l (i+1))||Py (aP l (i+1))) then WO l n false true [] (i+1) nt else .ok [] (i+1) nt:PR (List Tn)).sat λL j m=>FN l (i+1) nt.length j m.length/\sizes L+2 * (i+1)<=2 * j:=by rw[dY];refine⟨λ_=>bF (anJ ak) λx j m hj=>by omega,λ_=> ?_⟩;show FN l (i+1) nt.length (i+1) nt.length/\sizes []+2 * (i+1)<=2 * (i+1);rw[sizes0];omega
 refine bF h1 λL j m hj=> ?_
 rw[dY];refine⟨λhc=> ?_,λ_=> ?_⟩
 ·have:=jH (ala hc);rw[eF];exact bF (IE ak ak ak) λx j' m' hj'=>by show FS l i nt.length (Tn.size _) j' m'.length;rw[Zb,sizes1];omega
 ·show FS l i nt.length (Tn.size _) j m.length;rw[Zb];omega
def aA6{n i:Nat}{nt:jf}(hi:i<=l.length):(aus l n i nt).sat λx j m=>FS l i nt.length x.size j m.length:=by
 have hw:∀k,i<l.length->(PR.ok (Tn.mk k 0 [] [] []) (i+1) nt).sat λx j m=>FS l i nt.length x.size j m.length:=λk hl=>by show FS l i nt.length (Tn.size _) (i+1) nt.length;rw[ah0];omega
 rw[aus,dY];refine⟨λhc=> ?_,λ_=> ?_⟩
 ·have:i<l.length:=by rw[Bool.or_eq_true] at hc;rcases hc with hc|hc<;>exact fE hc (by decide)
  exact aJ0 this
 rw[dY];refine⟨λhc=>hw 22 (fE hc (by decide)),λ_=> ?_⟩;rw[dY];refine⟨λhc=>hw 25 (fE hc (by decide)),λ_=> ?_⟩;rw[dY];refine⟨λhc=>hw 26 (fE hc (by decide)),λ_=> ?_⟩;rw[dY];refine⟨λhc=>awr (fE hc (by decide)),λ_=> ?_⟩;rw[dY];refine⟨λhc=>awr (fE hc (by decide)),λ_=> ?_⟩;rw[dY];refine⟨λ_=>aJZ,λ_=> ?_⟩;rw[eF];exact bF (IE ak ak hi) λx j m hj=>by show FS l i nt.length (Tn.size _) j m.length;rw[Za];omega
def auJ{α:Type}{P:α->Nat->jf->Prop}{x:α}{j:Nat}{nt:jf}(h:P x j nt):(endP l x j nt).sat P:=by rw[endP,dY];exact⟨λ_=>h,λ_=>trivial⟩
structure aG2(l:List Tk)(n:Nat):Prop where
 st:∀i nt,i<=l.length->(stP l n i nt).sat λx j m=>FS l i nt.length x.size j m.length
 blk:∀i nt,i<=l.length->(Vk l n i nt).sat λx j m=>FB l i nt.length x.size j m.length
 lines:∀L i nt,i<=l.length->(aeD l n L i nt).sat λL' j m=>i<j/\FN l i nt.length j m.length/\sizes L'+m.length+6 * i<=sizes L+nt.length+6 * j
 body:∀i nt,i<=l.length->(E9 l n i nt).sat λx j m=>i<j/\FN l i nt.length j m.length/\x.size+m.length+6 * i+1<=nt.length+6 * j
section
variable {n:Nat} (h:aG2 l n)
include h
theorem aFA(i:Nat)(nt:jf)(hi:i<=l.length):(stP l (n+1) i nt).sat λx j m=>FS l i nt.length x.size j m.length:=by
 rw[stP,dY];refine⟨λ_=>bF (h.blk i nt hi) λx j m hj=>by omega,λ_=> ?_⟩;rw[dY];refine⟨λhc=> ?_,λ_=> ?_⟩
 ·have:=fE hc (by decide);simp only[eF];refine bF (abG ak) λx j m hj=> ?_
  refine bF (h.body j m ak) λy j2 m2 hj2=> ?_
  rw[dY];have hs:=aeG (l:=l) (i:=j2) (nt:=m2) ak;refine⟨λhc=> ?_,λ_=> ?_⟩
  ·have:=fE hc (by decide);rw[eF];exact bF (h.body _ _ ak) λz j3 m3 hj3=>by show FS l i nt.length (Tn.size _) j3 m3.length;rw[size3];omega
  ·show FS l i nt.length (Tn.size _) j2 m2.length;rw[size2];omega
 rw[dY];refine⟨λhc=> ?_,λ_=> ?_⟩
 ·have:=fE hc (by decide);simp only[eF];refine bF (abG ak) λx j m hj=> ?_
  exact bF (h.body j m ak) λy j2 m2 hj2=>by show FS l i nt.length (Tn.size _) j2 m2.length;rw[size2];omega
 rw[dY];refine⟨λhc=> ?_,λ_=> ?_⟩
 ·have:=fE hc (by decide);simp only[eF,Ba];refine bF (h.body (i+1) nt ak) λx j m hj=>λhk=> ?_
  have hs:=aeG (l:=l) (i:=j) (nt:=m) ak;have:=jH (l:=l) (i:=(sep l j m).1) (by rw[hk];decide);refine bF (abG ak) λy j2 m2 hj2=> ?_
  refine auJ (?_:FS l i nt.length (Tn.size _) j2 m2.length);rw[size2];omega
 rw[dY];refine⟨λhc=> ?_,λ_=> ?_⟩
 ·have:=fE hc (by decide);simp only[eF,Ba];intro h32;have:=jH (l:=l) (i:=i+1) (by rw[h32];decide);rw[dY];refine⟨λhd=> ?_,λ_=> ?_⟩
  ·simp only[eF,Ba,XQ];intro h6 h33;have:=jH (l:=l) (i:=i+1+1+2+1) (by rw[h33];decide);exact bF (h.body _ nt ak) λy j2 m2 hj2=>by show FS l i nt.length (Tn.size _) j2 m2.length;rw[Za];omega
  ·simp only[eF,Ba];refine bF (XR ak) λx j m hj=>λhk=> ?_
   have:=jH (l:=l) (i:=j) (by rw[hk];decide);have g1:=NR (l:=l) (i:=j+1) (nt:=m) ak;refine bF (XR ak) λy j2 m2 hj2=>λhk2=> ?_
   have:=jH (l:=l) (i:=j2) (by rw[hk2];decide);have g2:=NR (l:=l) (i:=j2+1) (nt:=m2) ak;refine bF (XR ak) λz j3 m3 hj3=>λhk3=> ?_
   have:=jH (l:=l) (i:=j3) (by rw[hk3];decide);exact bF (h.body _ _ ak) λw j4 m4 hj4=>by show FS l i nt.length (Tn.size _) j4 m4.length;rw[aRW];omega
 rw[eF];exact bF (aA6 hi) λx j m hj=>auJ hj
theorem aA7(i:Nat)(nt:jf)(hi:i<=l.length):(Vk l (n+1) i nt).sat λx j m=>FB l i nt.length x.size j m.length:=by simp only[Vk,eF,Ba];intro hk;have:=jH (l:=l) (i:=i) (by rw[hk];decide);exact bF (h.lines [] (i+1) nt ak) λL j m hj=>by rw[sizes0] at hj;show FB l i nt.length (Tn.size _) j m.length;rw[Zb];omega
theorem auK(L:List Tn)(i:Nat)(nt:jf)(hi:i<=l.length):(aeD l (n+1) L i nt).sat λL' j m=>i<j/\FN l i nt.length j m.length/\sizes L'+m.length+6 * i<=sizes L+nt.length+6 * j:=by
 have hs:=aeG (l:=l) (i:=i) (nt:=nt) hi;rw[aeD,dY];refine⟨λhc=> ?_,λ_=> ?_⟩
 ·have:=fE hc (by decide);show i<(sep l i nt).1+1/\FN l i nt.length ((sep l i nt).1+1) ([]:jf).length/\sizes (L++Y8 (sep l i nt).2)+([]:jf).length+6 * i<=sizes L+nt.length+6 * ((sep l i nt).1+1);rw[nH,afS,SS];omega
 rw[dY];refine⟨λ_=>trivial,λhc=> ?_⟩;have hlt:(sep l i nt).1<l.length:=jH (by simpa using hc);rw[eF];refine bF (h.st _ _ ak) λs j m hj=> ?_
 rw[SS] at hj;exact bF (h.lines _ j m ak) λL' j2 m2 hj2=>by rw[sizes1,nH,afS] at hj2;omega
theorem ax5(i:Nat)(nt:jf)(hi:i<=l.length):(E9 l (n+1) i nt).sat λx j m=>i<j/\FN l i nt.length j m.length/\x.size+m.length+6 * i+1<=nt.length+6 * j:=by
 have hs:=NR (l:=l) (i:=i) (nt:=nt) hi;rw[E9,dY];refine⟨λhc=>bF (h.blk _ _ ak) λs j m hj=>by omega,λ_=> ?_⟩;rw[dY];refine⟨λhc=> ?_,λ_=> ?_⟩
 ·have:=fE hc (by decide);show i<(nl l i nt).1+1/\FN l i nt.length ((nl l i nt).1+1) ([]:jf).length/\(Tn.size _)+([]:jf).length+6 * i+1<=nt.length+6 * ((nl l i nt).1+1);rw[Zb,afS,SS];omega
 rw[eF];exact bF (h.st _ _ ak) λs j m hj=>by rw[SS] at hj;show i<j/\FN l i nt.length j m.length/\(Tn.size _)+m.length+6 * i+1<=nt.length+6 * j;rw[Zb,sizes1,afS];omega
end
def afT(l:List Tk):∀n,aG2 l n
 |0=>⟨λ_ _ _=>by rw[stP];trivial,λ_ _ _=>by rw[Vk];trivial,λ_ _ _ _=>by rw[aeD];trivial,λ_ _ _=>by rw[E9];trivial⟩
 |n+1=>have h:=afT l n
  ⟨aFA h,aA7 h,auK h,ax5 h⟩
def aps:∀(n:Nat) (L:List Tn) (i:Nat) (nt:jf),i<=l.length->(SB l n L i nt).sat λL' j m=>i<j/\FN l i nt.length j m.length/\sizes L'+m.length+6 * i<=sizes L+nt.length+6 * j
 |0,_,_,_,_=>trivial
 |n+1,L,i,nt,hi=>by
  rw[SB,eF,XQ];intro h6;have:=jH (l:=l) (i:=i) (by rw[h6];decide);rw[dY];refine⟨λhc=> ?_,λ_=> ?_⟩
  ·have:=fE hc (by decide);rw[dY];refine⟨λ_=>trivial,λ_=> ?_⟩;have hs:=NR (l:=l) (i:=i+1+1) (nt:=nt) ak;exact bF (aps n _ _ _ ak) λs j m hj=>by rw[sizes1,ah0] at hj;omega
  ·show i<i+1/\FN l i nt.length (i+1) nt.length/\sizes (L++[Tn.mk 1 0 (Bv l i) [] []])+nt.length+6 * i<=sizes L+nt.length+6 * (i+1);rw[sizes1,ah0];omega
def aJ1{n i:Nat}{nt:jf}(hi:i<=l.length):(aAy l n i nt).sat λx j m=>FS l i nt.length x.size j m.length:=by
 rw[aAy,dY];refine⟨λhc=> ?_,λ_=>trivial⟩;simp only[eF,Ba];intro h32;have:=jH (l:=l) (i:=i+1) (by rw[h32];decide);have h1:(bif aP l (i+1+1)==33 then .ok [] (i+1+1) nt else SB l n [] (i+1+1) nt:PR (List Tn)).sat λL j m=>FN l (i+2) nt.length j m.length/\sizes L+m.length+6 * (i+2)<=nt.length+6 * j:=by rw[dY];refine⟨λ_=> ?_,λ_=>bF (aps n [] _ nt ak) λx j m hj=>by rw[sizes0] at hj;omega⟩;show FN l (i+2) nt.length (i+1+1) nt.length/\sizes []+nt.length+6 * (i+2)<=nt.length+6 * (i+1+1);rw[sizes0];omega
 refine bF h1 λL j m hj=>λh33=> ?_
 have:=jH (l:=l) (i:=j) (by rw[h33];decide);have hs:=NR (l:=l) (i:=j+1) (nt:=m) ak;exact bF ((afT l n).blk _ _ ak) λx j' m' hj'=>by show FS l i nt.length (Tn.size _) j' m'.length;rw[Zb,sizes1];omega
def aFB{n i:Nat}{nt:jf}(hi:i<=l.length):(adE l n i nt).sat λx j m=>FS l i nt.length x.size j m.length:=by
 rw[adE,dY];refine⟨λhc=> ?_,λ_=> ?_⟩
 ·have:=fE hc (by decide);rw[eF];exact bF ((afT l n).blk (i+1) nt ak) λx j m hj=>by show FS l i nt.length (Tn.size _) j m.length;rw[Za];omega
 rw[dY];refine⟨λhc=> ?_,λ_=> ?_⟩
 ·have:=fE hc (by decide);rw[eF];exact bF ((afT l n).blk (i+1) nt ak) λx j m hj=>by show FS l i nt.length (Tn.size _) j m.length;rw[Za];omega
 rw[dY];refine⟨λhc=> ?_,λ_=> ?_⟩
 ·have:=fE hc (by decide);exact bF (aJ1 ak) λx j m hj=>by omega
 rw[dY];refine⟨λhc=> ?_,λ_=> ?_⟩
 ·rw[eF];exact bF ((afT l n).blk i nt hi) λx j m hj=>by show FS l i nt.length (Tn.size _) j m.length;rw[Za];omega
 rw[eF];refine bF (IE ak ak hi) λx j m hj=> ?_
 rw[eF];have h1:(bif aP l j==36 then(ex l n 1 false false (nl l (j+1) m).1 (nl l (j+1) m).2).bind λy i nt=> .ok (43,[x.1,y.1]) i nt else .ok (42,[x.1]) j m:PR (Int×List Tn)).sat λq j m=>FE l i nt.length (sizes q.2) j m.length:=by
  rw[dY];refine⟨λhc=> ?_,λ_=> ?_⟩
  ·have:=fE hc (by decide);have hs:=NR (l:=l) (i:=j+1) (nt:=m) ak;rw[eF];exact bF (IE ak ak ak) λy j2 m2 hj2=>by show FE l i nt.length (sizes [x.1,y.1]) j2 m2.length;simp only[sizes];omega
  ·show FE l i nt.length (sizes [x.1]) j m.length;simp only[sizes];omega
 refine bF h1 λq j2 m2 hj2=> ?_
 rw[dY];refine⟨λhc=> ?_,λ_=> ?_⟩
 ·rw[eF];exact bF ((afT l n).blk j2 m2 ak) λy j3 m3 hj3=>by show FS l i nt.length (Tn.size _) j3 m3.length;rw[Zb,sizes1];omega
 ·refine auJ (?_:FS l i nt.length (Tn.size _) j2 m2.length);rw[Zb];omega
def dJ(l:List (aC)):aj (encS l)=true:=by simp[aj,encS,D.flat]
def snS(l:List (aC))(s:aC):encS l++[[D.str s]]=encS (l++[s]):=by simp[encS]
def lnS(l:List (aC)):(encS l).length=l.length:=by simp[encS]
abbrev TP:=Int×Int×aC×aC×Bool×ay×Bool×ay×Int×Bool×ay
abbrev TT:=Int×Int×aC×aC×Bool×ay×ay×Int×Bool×ay
abbrev TL:=Bool×ay×ay×Int×Bool×ay
def AP(l:List Tk)(o:Option TP):PR Xp->Prop
 | .ok x j nt=>∃fl ks,aB ks=dG false x.1.kids/\o=some (x.1.kind,x.1.op,x.1.text,x.1.other,fl,ks,tgt x,aF l,(j:Int),false,encS nt)
 | .bad j=>∃k op x y fl ks tg nt,nt.length<=l.length/\o=some (k,op,x,y,fl,ks,tg,aF l,(j:Int),true,encS nt)
 | .out=>True
def AT(l:List Tk)(o:Option TT):PR Tn->Prop
 | .ok x j nt=>∃fl ks,aB ks=dG false x.kids/\o=some (x.kind,x.op,x.text,x.other,fl,ks,aF l,(j:Int),false,encS nt)
 | .bad j=>∃k op x y fl ks nt,nt.length<=l.length/\o=some (k,op,x,y,fl,ks,aF l,(j:Int),true,encS nt)
 | .out=>True
def AL(l:List Tk)(o:Option TL):PR (List Tn)->Prop
 | .ok L j nt=>∃fl,o=some (fl,dG false L,aF l,(j:Int),false,encS nt)
 | .bad j=>∃fl ks nt,nt.length<=l.length/\o=some (fl,ks,aF l,(j:Int),true,encS nt)
 | .out=>True
variable {l:List Tk}
section
variable {β γ:Type} {R:Option β->PR γ->Prop}
def AP.elim{o:Option TP}{p:PR Xp}(h:AP l o p){f:TP->Option β}{g:Xp->Nat->jf->PR γ}(hout:∀o,R o .out)
  (hbad:∀k op x y fl ks tg j nt,nt.length<=l.length->R (f (k,op,x,y,fl,ks,tg,aF l,((j:Nat):Int),true,encS nt)) (.bad j))
  (hok:∀x fl ks j nt,aB ks=dG false x.1.kids->p=.ok x j nt->R (f (x.1.kind,x.1.op,x.1.text,x.1.other,fl,ks,tgt x,aF l,(j:Int),false,encS nt)) (g x j nt)):R (o.bind f) (p.bind g):=by
 cases p with
 |ok x j nt=>obtain⟨fl,ks,h1,rfl⟩:=h;exact hok x fl ks j nt h1 rfl
 |bad j=>obtain⟨k,op,x,y,fl,ks,tg,nt,h1,rfl⟩:=h;exact hbad k op x y fl ks tg j nt h1
 |out=>exact hout _
def AT.elim{o:Option TT}{p:PR Tn}(h:AT l o p){f:TT->Option β}{g:Tn->Nat->jf->PR γ}(hout:∀o,R o .out)
  (hbad:∀k op x y fl ks j nt,nt.length<=l.length->R (f (k,op,x,y,fl,ks,aF l,((j:Nat):Int),true,encS nt)) (.bad j))
  (hok:∀x fl ks j nt,aB ks=dG false x.kids->p=.ok x j nt->R (f (x.kind,x.op,x.text,x.other,fl,ks,aF l,(j:Int),false,encS nt)) (g x j nt)):R (o.bind f) (p.bind g):=by
 cases p with
 |ok x j nt=>obtain⟨fl,ks,h1,rfl⟩:=h;exact hok x fl ks j nt h1 rfl
 |bad j=>obtain⟨k,op,x,y,fl,ks,nt,h1,rfl⟩:=h;exact hbad k op x y fl ks j nt h1
 |out=>exact hout _
def AL.elim{o:Option TL}{p:PR (List Tn)}(h:AL l o p){f:TL->Option β}{g:List Tn->Nat->jf->PR γ}(hout:∀o,R o .out)
  (hbad:∀fl ks j nt,nt.length<=l.length->R (f (fl,ks,aF l,((j:Nat):Int),true,encS nt)) (.bad j))
  (hok:∀L fl j nt,p=.ok L j nt->R (f (fl,dG false L,aF l,(j:Int),false,encS nt)) (g L j nt)):R (o.bind f) (p.bind g):=by
 cases p with
 |ok L j nt=>obtain⟨fl,rfl⟩:=h;exact hok L fl j nt rfl
 |bad j=>obtain⟨fl,ks,nt,h1,rfl⟩:=h;exact hbad fl ks j nt h1
 |out=>exact hout _
end
def PR.bind_ok{α:Type}(p:PR α):(p.bind λa i nt=> .ok a i nt)=p:=by cases p<;>rfl
def AP.pass{o:Option TP}{p:PR Xp}(h:AP l o p){f:TP->Option TP}
  (hf:∀k op x y fl ks tg j b nt,f (k,op,x,y,fl,ks,tg,aF l,j,b,encS nt)=some (k,op,x,y,false,aB ks,tg,aF l,j,b,encS nt)):AP l (o.bind f) p:=by
 rw[<-PR.bind_ok p];refine AP.elim (R:=AP l) h (λ_=>trivial) (λk op x y fl ks tg j nt hn=> ?_) (λx fl ks j nt hk _=> ?_)
 ·rw[hf];exact⟨_,_,_,_,_,_,_,_,hn,rfl⟩
 ·rw[hf];exact⟨_,_,by rw[hk,iY],rfl⟩
def AT.pass{o:Option TT}{p:PR Tn}(h:AT l o p){f:TT->Option TT}
  (hf:∀k op x y fl ks j b nt,f (k,op,x,y,fl,ks,aF l,j,b,encS nt)=some (k,op,x,y,false,aB ks,aF l,j,b,encS nt)):AT l (o.bind f) p:=by
 rw[<-PR.bind_ok p];refine AT.elim (R:=AT l) h (λ_=>trivial) (λk op x y fl ks j nt hn=> ?_) (λx fl ks j nt hk _=> ?_)
 ·rw[hf];exact⟨_,_,_,_,_,_,_,hn,rfl⟩
 ·rw[hf];exact⟨_,_,by rw[hk,iY],rfl⟩
def dV(i:Nat)(b:Bool)(nt:jf):M.aA (aF l) (i:Int) b (encS nt)=some (aP l i,aF l,(i:Int),b,encS nt):=by
 simp only[M.aA,M.Gg,gZ,dJ,aG,aP]
 by_cases h:i<l.length
 ·rw[vG ak,aQ];obtain⟨t,ht⟩:∃t,l[i]? =some t:=⟨l[i],by simp[h]⟩
  simp only[dn,yh,ht,Nw,ah,cT0]
 ·rw[zdt ak,aG,List.getElem?_eq_none ak]
def ny(hl:l.length<=1048576){i:Nat}(h:i<l.length):i64.wrap ((i:Int)+1)=((i+1:Nat):Int):=by rw[aS ak ak];omega
def KL(hl:l.length<=1048576){i:Nat}(h:i<l.length)(b:Bool)(nt:jf):M.eU (aF l) (i:Int) b (encS nt)=some (Bv l i,aF l,((i+1:Nat):Int),b,encS nt):=by
 obtain⟨t,ht⟩:∃t,l[i]? =some t:=⟨l[i],by simp[h]⟩
 simp only[M.eU,M.Gl,dn,yh,ht,Nw,ah,cT1,dJ,aG,ny hl h,Bv]
def auL(k:Int):M.qE k=some (isStep k):=by simp only[M.qE,M.Ry,isStep];cases k==51<;>rfl
def aG3(k:Int):M.lF k=some (agZ k):=by simp only[M.lF,M.Dc,agZ];cases k==3<;>cases k==4<;>cases k==6<;>cases k==7<;>cases k==8<;>cases k==32<;>cases k==68<;>rfl
def apt(k:Int):M.kQ k=some (Wp k):=by simp only[M.kQ,M.MG,Wp];cases k==0<;>cases k==1<;>cases k==2<;>cases k==37<;>rfl
def ai2(k:Int):M.DK k=some (Py k):=by simp only[M.DK,M.Ug,Py];cases k==62<;>cases k==53<;>rfl
def Ws(k:Int):M.yL k=some (Vh k):=by simp only[M.yL,M.O8,Vh];cases k==32<;>cases k==34<;>rfl
def YJ(k:Int):M.yM k=some (YC k):=by simp only[M.yM,M.O9,YC];cases k==33<;>cases k==35<;>rfl
def auM(i:Nat)(b:Bool)(nt:jf):M.jl (aF l) (i:Int) b (encS nt)=some (0,0,[],[],true,[],false,aF l,(i:Int),true,encS nt):=by simp only[M.jl,M.Gj,dJ,aG]
def sU(k:Int)(i:Nat)(nt:jf):M.aI k (aF l) (i:Int) true (encS nt)=some (false,aF l,(i:Int),true,encS nt):=by simp only[M.aI,M.rM,dJ,aG]
section
variable {β γ:Type} {R:Option β->PR γ->Prop}
def KN(hl:l.length<=1048576){k:Int}(hk:k≠0){i:Nat}{nt:jf}{f:Bool×ay×Int×Bool×ay->Option β}{g:Unit->Nat->jf->PR γ}
  (hbad:R (f (false,aF l,(i:Int),true,encS nt)) (.bad i))
  (hok:aP l i=k->i<l.length->R (f (true,aF l,((i+1:Nat):Int),false,encS nt)) (g () (i+1) nt)):
  R ((M.aI k (aF l) (i:Int) false (encS nt)).bind f) ((lU l k i nt).bind g):=by
 have e:M.aI k (aF l) (i:Int) false (encS nt)=bif aP l i==k then some (true,aF l,i64.wrap ((i:Int)+1),false,encS nt) else some (false,aF l,(i:Int),true,encS nt):=by simp only[M.aI,M.rM,dJ,aG,aQ,dV,ah,bne];cases aP l i==k<;>rfl
 rw[e,lU];cases hc:aP l i==k with
 |true=>
  have h1:aP l i=k:=by rwa [beq_iff_eq] at hc
  have h2:i<l.length:=jH (by rw[h1];exact hk);simp only[aG,ny hl h2,ah];exact hok h1 h2
 |false=>exact hbad
def aA8(hl:l.length<=1048576){i:Nat}{nt:jf}{f:aC×ay×Int×Bool×ay->Option β}{g:aC->Nat->jf->PR γ}
  (hbad:R (f ([],aF l,(i:Int),true,encS nt)) (.bad i))
  (hok:aP l i=6->i<l.length->R (f (Bv l i,aF l,((i+1:Nat):Int),false,encS nt)) (g (Bv l i) (i+1) nt)):
  R ((M.aY (aF l) (i:Int) false (encS nt)).bind f) ((nameP l i nt).bind g):=by
 rw[nameP];cases hc:aP l i==6 with
 |true=>
  have h1:aP l i=6:=by rwa [beq_iff_eq] at hc
  have h2:i<l.length:=jH (by rw[h1];decide);simp only[M.aY,M.iL,dJ,aG,aQ,dV,ah,bne,hc,zaP,KL hl h2];exact hok h1 h2
 |false=>simp only[M.aY,M.iL,dJ,aG,aQ,dV,ah,bne,hc,Bool.not_false];exact hbad
end
def afU{α:Type}{L:List α}{i:Nat}{t:α}(h:L[i]? =some t):L.drop i=t::L.drop (i+1):=by obtain⟨hi,rfl⟩:=NV.1 h;exact List.drop_eq_getElem_cons hi
def anK(i:Nat)(nt:jf):nl l i nt=bif aP l i==1 then nl l (i+1) nt else bif aP l i==2 then nl l (i+1) (nt++[Bv l i]) else(i,nt):=by
 unfold nl;cases h:l[i]? with
 |none=>
  have e:aP l i=0:=by rw[aP,h]
  rw[e,List.drop_eq_nil_of_le (List.getElem?_eq_none_iff.1 h)];rfl
 |some t=>
  have e1:aP l i=t.kind:=by rw[aP,h]
  have e2:Bv l i=t.text:=by rw[Bv,h]
  rw[afU h,nlR,e1,e2]
def auN(i:Nat)(nt:jf):sep l i nt=bif aP l i==1||aP l i==37 then sep l (i+1) nt else bif aP l i==2 then sep l (i+1) (nt++[Bv l i]) else(i,nt):=by
 unfold sep;cases h:l[i]? with
 |none=>
  have e:aP l i=0:=by rw[aP,h]
  rw[e,List.drop_eq_nil_of_le (List.getElem?_eq_none_iff.1 h)];rfl
 |some t=>
  have e1:aP l i=t.kind:=by rw[aP,h]
  have e2:Bv l i=t.text:=by rw[Bv,h]
  rw[afU h,ab2,e1,e2]
def aA9{P:Nat->jf->Prop}(h1:∀i nt,aP l i=1->i<l.length->P (i+1) nt->P i nt)(h2:∀i nt,aP l i=2->i<l.length->P (i+1) (nt++[Bv l i])->P i nt)
  (h3:∀i nt,(aP l i==1)=false->(aP l i==2)=false->P i nt):∀i nt,P i nt:=by
 have:∀n i nt,l.length - i<=n->P i nt:=by
  intro n;induction n with
  |zero=>
   intro i nt hn;have e:aP l i=0:=by rw[aP,List.getElem?_eq_none ak]
   exact h3 i nt (by rw[e];rfl) (by rw[e];rfl)
  |succ n ih=>
   intro i nt hn;cases e1:aP l i==1 with
   |true=>
    have e:aP l i=1:=by rwa [beq_iff_eq] at e1
    have hlt:=jH (l:=l) (i:=i) (by rw[e];decide);exact h1 i nt e hlt (ih _ _ ak)
   |false=>
    cases e2:aP l i==2 with
    |true=>
     have e:aP l i=2:=by rwa [beq_iff_eq] at e2
     have hlt:=jH (l:=l) (i:=i) (by rw[e];decide);exact h2 i nt e hlt (ih _ _ ak)
    |false=>exact h3 i nt e1 e2
 exact λi nt=>this _ i nt (zaQ _)
def aBa(i:Nat)(nt:jf):sep l i nt=bif aP l (nl l i nt).1==37 then sep l ((nl l i nt).1+1) (nl l i nt).2 else nl l i nt:=by
 refine aA9 (l:=l) (P:=λi nt=>sep l i nt=bif aP l (nl l i nt).1==37 then sep l ((nl l i nt).1+1) (nl l i nt).2 else nl l i nt) ?_ ?_ ?_ i nt
 ·intro i nt hk _ ih;rw[auN,anK,hk];exact ih
 ·intro i nt hk _ ih;rw[auN,anK,hk];exact ih
 ·intro i nt h1 h2;rw[auN,anK,h1,h2];cases h3:aP l i==37<;>simp only[Bool.or_true,Bool.or_false,Bool.false_or,aG,aQ,h3]
def Qy(hl:l.length<=1048576)(i:Nat)(nt:jf)(hi:i<=l.length)(hn:nt.length<=i):
  M.aK (aF l) (i:Int) false (encS nt)=some (aF l,((nl l i nt).1:Int),false,encS (nl l i nt).2):=by
 have hstep:∀i nt,(b:Bool)->i<l.length->aP l i=1->M.kT (bif b then .inl (aF l,(i:Int),false,encS nt) else .inr (aF l,(i:Int),false,encS nt))=some (.inl (.inr (aF l,((i+1:Nat):Int),false,encS nt))):=by intro i nt b hlt hk;cases b<;>simp only[yH,aG,aQ,M.kT,M.nD,Bool.not_false,dJ,dV,ah,hk,ny hl hlt,BEq.rfl]
 have hstep2:∀i nt,(b:Bool)->i<l.length->nt.length<=i->aP l i=2->M.kT (bif b then .inl (aF l,(i:Int),false,encS nt) else .inr (aF l,(i:Int),false,encS nt))=some (.inl (.inr (aF l,((i+1:Nat):Int),false,encS (nt++[Bv l i])))):=by
  intro i nt b hlt hni hk;obtain⟨t,ht⟩:∃t,l[i]? =some t:=⟨l[i],by simp[hlt]⟩
  have e2:Bv l i=t.text:=by rw[Bv,ht]
  have h21:((2:Int)==1)=false:=rfl;cases b<;>simp only[yH,aG,aQ,M.kT,M.nD,Bool.not_false,dJ,dV,ah,hk,h21,BEq.rfl,ny hl hlt,dn,yh,ht,Nw,cT1,snS,lnS,GK,e2]<;>
   rw[bC ak,aG,bC ak,aG]
 have aJ2:∀i nt,(b:Bool)->(aP l i==1)=false->(aP l i==2)=false->M.kT (bif b then .inl (aF l,(i:Int),false,encS nt) else .inr (aF l,(i:Int),false,encS nt))=some (.inr (.inl (aF l,(i:Int),false,encS nt))):=by intro i nt b h1 h2;cases b<;>simp only[yH,aG,aQ,M.kT,M.nD,Bool.not_false,dJ,dV,ah,h1,h2]
 have hloop:∀i nt,∀b:Bool,i<=l.length->nt.length<=i->M.jD (bif b then .inl (aF l,(i:Int),false,encS nt) else .inr (aF l,(i:Int),false,encS nt))=some (.inl (aF l,((nl l i nt).1:Int),false,encS (nl l i nt).2)):=by
  refine aA9 (l:=l) (P:=λi nt=>∀b:Bool,i<=l.length->nt.length<=i->M.jD (bif b then .inl (aF l,(i:Int),false,encS nt) else .inr (aF l,(i:Int),false,encS nt))=some (.inl (aF l,((nl l i nt).1:Int),false,encS (nl l i nt).2))) ?_ ?_ ?_
  ·intro i nt hk hlt ih b hi hn;rw[M.jD,cu (hstep i nt b hlt hk),anK,hk];exact ih false ak ak
  ·intro i nt hk hlt ih b hi hn;rw[M.jD,cu (hstep2 i nt b hlt hn hk),anK,hk];exact ih false ak (by rw[wM,GK];omega)
  ·intro i nt h1 h2 b hi hn;rw[M.jD,aT (aJ2 i nt b h1 h2),anK,h1,h2];rfl
 have:=hloop i nt true hi hn;simp only[aG] at this;simp only[M.aK,M.uD,this,ah,jX,dJ,aG]
def GH(i:Nat)(nt:jf):M.aK (aF l) (i:Int) true (encS nt)=some (aF l,(i:Int),true,encS nt):=by have:M.jD (.inl (aF l,(i:Int),true,encS nt))=some (.inr (aF l,(i:Int),true,encS nt)):=aT rfl;simp only[M.aK,M.uD,this,ah,jX,letE,dJ,aG]
def anL(hl:l.length<=1048576)(i:Nat)(nt:jf)(hi:i<=l.length)(hn:nt.length<=i):
  M.bG (aF l) (i:Int) false (encS nt)=some (aF l,((sep l i nt).1:Int),false,encS (sep l i nt).2):=by
 have hloop:∀n i nt,∀b:Bool,l.length - i<=n->i<=l.length->nt.length<=i->M.kU (bif b then .inl (aF l,(i:Int),false,encS nt) else .inr (aF l,(i:Int),false,encS nt))=some (aF l,((sep l i nt).1:Int),false,encS (sep l i nt).2):=by
  intro n;induction n with
  |zero=>
   intro i nt b hk hi hn;have e:=aBa (l:=l) i nt;have hf:=NR (l:=l) (nt:=nt) hi;have hnl:=Qy hl i nt hi hn;have e0:aP l (nl l i nt).1=0:=by rw[aP,List.getElem?_eq_none ak]
   rw[e0] at e;have e':sep l i nt=nl l i nt:=e;rw[e',M.kU];refine aT ?_;have h0:((0:Int) !=37)=true:=rfl;cases b<;>simp only[aG,aQ,M.lJ,M.jQ,dJ,hnl,ah,dV,e0,h0]
  |succ n ih=>
   intro i nt b hk hi hn;have e:=aBa (l:=l) i nt;have hf:=NR (l:=l) (nt:=nt) hi;have hnl:=Qy hl i nt hi hn;rw[M.kU];cases h37:aP l (nl l i nt).1==37 with
   |true=>
    rw[h37,aG] at e;have hlt:=fE h37 (by decide);rw[e];have hb:M.lJ (bif b then .inl (aF l,(i:Int),false,encS nt) else .inr (aF l,(i:Int),false,encS nt))=some (.inl (.inr (aF l,(((nl l i nt).1+1:Nat):Int),false,encS (nl l i nt).2))):=by cases b<;>simp only[aG,aQ,M.lJ,M.jQ,dJ,hnl,ah,dV,bne,h37,zaP,ny hl hlt]
    rw[cu hb];exact ih _ _ false ak ak ak
   |false=>rw[h37,aQ] at e;rw[e];refine aT ?_;cases b<;>simp only[aG,aQ,M.lJ,M.jQ,dJ,hnl,ah,dV,bne,h37,Bool.not_false]
 have:=hloop _ i nt true (zaQ _) hi hn;simp only[aG] at this;simp only[M.bG,M.qU,this,ah,dJ,aG]
def alb(i:Nat)(nt:jf):M.bG (aF l) (i:Int) true (encS nt)=some (aF l,(i:Int),true,encS nt):=by
 have:M.kU (.inl (aF l,(i:Int),true,encS nt))=some (aF l,(i:Int),true,encS nt):=
  aT (by simp only[M.lJ,M.jQ,dJ,aG,GH,ah])
 simp only[M.bG,M.qU,this,ah,dJ,aG]
def Bc(c1:Int)(b:Bool)(nt:jf)(hn:nt.length<=1048576):M.dL (aF l) c1 b (encS nt)=some (true,dG true (Y8 nt),aF l,c1,b,encS []):=by
 have hloop:=vW (b:=M.vH (nt.length:Int) (aF l) c1 b (encS nt)) (t:=((nt.length:Int),dG true (Y8 nt)))
  (λj=>((j:Int),dG true (Y8 (nt.take j)))) nt.length
  (by
   intro j hj;obtain⟨t,ht⟩:∃t,nt[j]? =some t:=⟨nt[j],by simp⟩
   have h1:(encS nt)[j]? =some [D.str t]:=by simp[encS,ht]
   have h2:dG true (Y8 (nt.take (j+1)))=dG true (Y8 (nt.take j))++[[D.int .i64 34,D.int .i64 0,D.str t,D.str [],D.sl true 5 []]]:=by rw[qW ht,Y8,List.map_append,zJ];rfl
   have h3:cStr [D.str t] 0=some t:=rfl;simp only[yH,M.vH,M.qm];rw[zdt ak,aG];simp only[dn,h1,ah,Zt,h3,dh,Bz,zlt,GK];rw[bC ak,aG,bC ak,aG,aS ak ak,h2];rfl)
  (by simp only[yH,M.vH,M.qm];rw[vG ak,aQ,List.take_length]) 0 (Nat.zero_le _)
 have MZ:M.yu (nt.length:Int) (aF l) c1 b (encS nt) (0,[])=some ((nt.length:Int),dG true (Y8 nt)):=hloop;simp only[M.dL,M.zG,lnS,MZ,ah];rfl
def aJ3{s:ay}{a:Nat}(h:a<=s.length):cut s (a:Int) (s.length:Int)=some (s.drop a):=by rw[cut,zdt ak,zdt ak,zdt ak];simp[List.take_of_length_le]
def aFC(hl:l.length<=1048576)(i:Nat)(nt:jf)(hi:i<=l.length):M.lQ (aF l) (i:Int) false (encS nt)=some (ahead (l.drop i) 0,aF l,(i:Int),false,encS nt):=by
 have hc:cut (aF l) (i:Int) (l.length:Int)=some (aF (l.drop i)):=by have:=aJ3 (s:=aF l) (a:=i) (by simpa using hi);rw[gZ] at this;rw[this];simp[aF]
 have hloop:∀{β:Type} (F:(Int×Int)⊕Unit⊕(Int×Int)->Option β) (T:Bool->Option β),(∀a,F (.inl a)=T false)->(∀a,F (.inr (.inl a))=T true)->(∀a,F (.inr (.inr a))=T false)->
   ∀(r pre:List Tk) (d:Nat),d<=pre.length->(pre++r).length<=1048576->
   (M.nV (aF (pre++r)) ((pre++r).length:Int) (aF l) (i:Int) false (encS nt) ((d:Int),(pre.length:Int))).bind F=T (ahead r d):=by
  intro β F T f1 f2 f3 r;induction r with
  |nil=>
   intro pre d hd hlen;have hb:M.bM (aF (pre++[])) ((pre++[]).length:Int) (aF l) (i:Int) false (encS nt) ((d:Int),(pre.length:Int))=some (.inr (.inr (.inr ((d:Int),(pre.length:Int))))):=by simp only[M.bM,M.fA,List.append_nil];rw[vG ak,aQ]
   rw[M.nV,aT hb,ah,f3,ahead]
  |cons t r ih=>
   intro pre d hd hlen;have ht:(pre++t::r)[pre.length]? =some t:=by simp
   have hlen':pre.length+(r.length+1)<=1048576:=by rw[wM,yS] at hlen;exact hlen
   have hnext:=ih (pre++[t]);rw[Qc,List.singleton_append,wM,GK] at hnext;have w1:i64.wrap ((pre.length:Int)+1)=((pre.length+1:Nat):Int):=by rw[aS ak ak];omega
   have w2:i64.wrap ((d:Int)+1)=((d+1:Nat):Int):=by rw[aS ak ak];omega
   have w3:i64.wrap ((d:Int) - 1)=(d:Int) - 1:=aS ak ak;have hg:decide ((pre.length:Int)<((pre++t::r).length:Int))=true:=by rw[zdt];rw[wM,yS];omega
   rw[ahead,M.nV];cases ho:Vh t.kind with
   |true=>
    have hb:M.bM (aF (pre++t::r)) ((pre++t::r).length:Int) (aF l) (i:Int) false (encS nt) ((d:Int),(pre.length:Int))=some (.inl (((d+1:Nat):Int),((pre.length+1:Nat):Int))):=by simp only[M.bM,M.fA,hg,aG,dn,yh,ht,Nw,ah,cT0,cT1,cT2,Ws,ho,w1,w2];rw[vG ak,aQ]
    rw[cu hb,aG];have:=hnext (d+1) ak hlen;rw[show(((d+1:Nat):Int))=(d:Int)+1 by omega] at this;exact this
   |false=>
    rw[aQ];cases hs:YC t.kind with
    |true=>
     rw[aG];cases hd1:decide ((d:Int) - 1<=0) with
     |true=>
      have hb:M.bM (aF (pre++t::r)) ((pre++t::r).length:Int) (aF l) (i:Int) false (encS nt) ((d:Int),(pre.length:Int))=some (.inr (.inl ((d:Int) - 1,(pre.length:Int)))):=by simp only[M.bM,M.fA,hg,aG,aQ,dn,yh,ht,Nw,ah,cT0,cT1,cT2,Ws,ho,YJ,hs,w3,hd1]
      rw[aT hb,ah,f1,aG]
     |false=>
      have hdd:1<d:=by have:=of_decide_eq_false hd1;omega
      have hb:M.bM (aF (pre++t::r)) ((pre++t::r).length:Int) (aF l) (i:Int) false (encS nt) ((d:Int),(pre.length:Int))=some (.inl (((d - 1:Nat):Int),((pre.length+1:Nat):Int))):=by simp only[M.bM,M.fA,hg,aG,aQ,dn,yh,ht,Nw,ah,cT0,cT1,cT2,Ws,ho,YJ,hs,w3,hd1,w1];rw[show((d:Int) - 1)=((d - 1:Nat):Int) by omega]
      rw[cu hb,aQ];have:=hnext (d - 1) ak hlen;rw[show(((d - 1:Nat):Int))=(d:Int) - 1 by omega] at this|-;exact this
    |false=>
     rw[aQ];cases hc:t.kind==36 with
     |true=>
      cases h1:(d:Int)==1 with
      |true=>
       have hb:M.bM (aF (pre++t::r)) ((pre++t::r).length:Int) (aF l) (i:Int) false (encS nt) ((d:Int),(pre.length:Int))=some (.inr (.inr (.inl ()))):=by simp only[M.bM,M.fA,hg,aG,aQ,dn,yh,ht,Nw,ah,cT0,cT1,cT2,Ws,ho,YJ,hs,hc,h1]
       rw[aT hb,ah,f2];rfl
      |false=>
       rw[Bool.and_false,aQ];cases hd0:decide ((d:Int)<=0) with
       |true=>
        have hb:M.bM (aF (pre++t::r)) ((pre++t::r).length:Int) (aF l) (i:Int) false (encS nt) ((d:Int),(pre.length:Int))=some (.inr (.inl ((d:Int),(pre.length:Int)))):=by simp only[M.bM,M.fA,hg,aG,aQ,dn,yh,ht,Nw,ah,cT0,cT1,cT2,Ws,ho,YJ,hs,hc,h1,hd0]
        rw[aT hb,ah,f1,aG]
       |false=>
        have hb:M.bM (aF (pre++t::r)) ((pre++t::r).length:Int) (aF l) (i:Int) false (encS nt) ((d:Int),(pre.length:Int))=some (.inl ((d:Int),((pre.length+1:Nat):Int))):=by simp only[M.bM,M.fA,hg,aG,aQ,dn,yh,ht,Nw,ah,cT0,cT1,cT2,Ws,ho,YJ,hs,hc,h1,hd0,w1]
        rw[cu hb,aQ];exact hnext d ak hlen
     |false=>
      rw[Bool.false_and,aQ];cases hd0:decide ((d:Int)<=0) with
      |true=>
       have hb:M.bM (aF (pre++t::r)) ((pre++t::r).length:Int) (aF l) (i:Int) false (encS nt) ((d:Int),(pre.length:Int))=some (.inr (.inl ((d:Int),(pre.length:Int)))):=by simp only[M.bM,M.fA,hg,aG,aQ,dn,yh,ht,Nw,ah,cT0,cT1,cT2,Ws,ho,YJ,hs,hc,hd0]
       rw[aT hb,ah,f1,aG]
      |false=>
       have hb:M.bM (aF (pre++t::r)) ((pre++t::r).length:Int) (aF l) (i:Int) false (encS nt) ((d:Int),(pre.length:Int))=some (.inl ((d:Int),((pre.length+1:Nat):Int))):=by simp only[M.bM,M.fA,hg,aG,aQ,dn,yh,ht,Nw,ah,cT0,cT1,cT2,Ws,ho,YJ,hs,hc,hd0,w1]
       rw[cu hb,aQ];exact hnext d ak hlen
 simp only[M.lQ,M.yw,gZ,hc,ah];have:=hloop (β:=Bool×ay×Int×Bool×ay) (λu=>jX u (λt=>bif aj (encS nt) then some (false,aF l,(i:Int),false,encS nt) else none) λu=>
  jX u (λt=>bif aj (encS nt) then some (true,aF l,(i:Int),false,encS nt) else none) λu=>letE u λt=>bif aj (encS nt) then some (false,aF l,(i:Int),false,encS nt) else none)
  (λb=>some (b,aF l,(i:Int),false,encS nt)) (λa=>by simp only[jX,dJ,aG]) (λa=>by simp only[jX,dJ,aG]) (λa=>by simp only[jX,letE,dJ,aG]) (l.drop i) [] 0 (zaQ _) (by simp;omega)
 simpa using this
variable {l:List Tk}
def AP.Dw{β:Type}{o:Option TP}{j:Nat}(h:AP l o (.bad j)){f:TP->Option β}{R:Option β->Prop}
  (hb:∀k op x y fl ks tg nt,nt.length<=l.length->R (f (k,op,x,y,fl,ks,tg,aF l,(j:Int),true,encS nt))):R (o.bind f):=by
 obtain⟨k,op,x,y,fl,ks,tg,nt,h1,rfl⟩:=h;exact hb k op x y fl ks tg nt h1
def AP.jI{k op:Int}{x y:aC}{fl:Bool}{ks:ay}{tg:Bool}{j:Nat}{nt:jf}(hn:nt.length<=l.length):AP l (some (k,op,x,y,fl,ks,tg,aF l,(j:Int),true,encS nt)) (.bad j):=⟨_,_,_,_,_,_,_,_,hn,rfl⟩
def AP.mk{x:Xp}{k op:Int}{s s':aC}{fl:Bool}{ks:ay}{tg:Bool}{j:Nat}{nt:jf}(h1:k=x.1.kind)(h2:op=x.1.op)(h3:s=x.1.text)(h4:s'=x.1.other)(h5:aB ks=dG false x.1.kids)(h6:tg=tgt x):
  AP l (some (k,op,s,s',fl,ks,tg,aF l,(j:Int),false,encS nt)) (.ok x j nt):=by
 subst h1 h2 h3 h4 h6;exact⟨_,_,h5,rfl⟩
def fzT(x:Tn)(w:Bool)(ks:ay)(h:aB ks=dG false x.kids):Fh [.int .i64 x.kind,.int .i64 x.op,.str x.text,.str x.other,.sl w 5 ks]=x.row false:=by simp only[Fh,D.fz,h,aug]
def fz1{x:Tn}{w:Bool}{ks:ay}(h:aB ks=dG false x.kids):aB [[.int .i64 x.kind,.int .i64 x.op,.str x.text,.str x.other,.sl w 5 ks]]=dG false [x]:=by rw[aB,fzT x w ks h];rfl
def fz2{x y:Tn}{w v:Bool}{ks kt:ay}(h:aB ks=dG false x.kids)(h':aB kt=dG false y.kids):
  aB [[.int .i64 x.kind,.int .i64 x.op,.str x.text,.str x.other,.sl w 5 ks],[.int .i64 y.kind,.int .i64 y.op,.str y.text,.str y.other,.sl v 5 kt]]=dG false [x,y]:=by
 rw[aB,fzT x w ks h,aB,fzT y v kt h'];rfl
def fz3{x y z:Tn}{w v u:Bool}{ks kt ku:ay}(h:aB ks=dG false x.kids)(h':aB kt=dG false y.kids)(h'':aB ku=dG false z.kids):
  aB [[.int .i64 x.kind,.int .i64 x.op,.str x.text,.str x.other,.sl w 5 ks],[.int .i64 y.kind,.int .i64 y.op,.str y.text,.str y.other,.sl v 5 kt],[.int .i64 z.kind,.int .i64 z.op,.str z.text,.str z.other,.sl u 5 ku]]=dG false [x,y,z]:=by
 rw[aB,fzT x w ks h,aB,fzT y v kt h',aB,fzT z u ku h''];rfl
def La{ks:ay}{L:List Tn}(h:aB ks=dG false L):aB (aB ks)=dG false L:=by rw[h,iY]
abbrev T10:=ay×Int×Bool×Int×Int×aC×aC×ay×Bool×ay
def asu(m:Nat){i:Nat}{nt:jf}(hn:nt.length<=l.length):AP l (M.ou (m+1) (aF l) (i:Int) true (encS nt)) (.bad i):=by rw[M.PZ];simp only[M.oh,M.vI,M.uF,aG,dJ];exact AP.jI hn
def ax6(m:Nat){i:Nat}{nt:jf}(hn:nt.length<=l.length):AP l (M.lZ (m+2) (aF l) (i:Int) true (encS nt)) (.bad i):=by rw[M.Tc];simp only[M.qw,M.xJ,aG,dJ];exact AP.pass (asu m hn) (by intros;simp only[dJ,aG])
def aBb(m:Nat){i:Nat}{nt:jf}(hn:nt.length<=l.length):AP l (M.rV (m+3) (aF l) (i:Int) true (encS nt)) (.bad i):=by
 rw[M.U8];simp only[M.rQ,M.zf,zaP,aQ,aG,dJ];refine AP.Dw (R:=λo=>AP l o (.bad i)) (ax6 m hn) λk op x y fl ks tg nt hn=> ?_
 simp only[aG,dJ];exact AP.jI hn
def aFD(m:Nat){a b:Bool}{i:Nat}{nt:jf}(hn:nt.length<=l.length):AP l (M.uQ (m+4) a b (aF l) (i:Int) true (encS nt)) (.bad i):=by
 rw[M.V3];simp only[M.uH,aG,dJ];refine AP.Dw (R:=λo=>AP l o (.bad i)) (aBb m hn) λk op x y fl ks tg nt hn=> ?_
 simp only[aG,dJ];exact AP.jI hn
def ax7(m:Nat){a b:Bool}{i:Nat}{nt:jf}(hn:nt.length<=l.length):AP l (M.jO (m+5) a b (aF l) (i:Int) true (encS nt)) (.bad i):=by rw[M.Td];simp only[M.qx,M.xM,M.sH,aG,dJ,dV,ah];exact AP.pass (aFD m hn) (by intros;simp only[dJ,aG])
def aFE(m:Nat){a b:Bool}{i:Nat}{nt:jf}(hn:nt.length<=l.length):AP l (M.qG (m+6) a b (aF l) (i:Int) true (encS nt)) (.bad i):=by
 rw[M.V4];simp only[M.uI,aG,dJ];refine AP.Dw (R:=λo=>AP l o (.bad i)) (ax7 m hn) λk op x y fl ks tg nt hn=> ?_
 rw[show M.wB _ _ _ _ _ _ _ _ _=_ from aT rfl];simp only[ah,aG,dJ];exact AP.jI hn
def aFF(m:Nat){a b:Bool}{i:Nat}{nt:jf}(hn:nt.length<=l.length):AP l (M.oG (m+7) a b (aF l) (i:Int) true (encS nt)) (.bad i):=by
 rw[M.V5];simp only[M.uJ,aG,dJ];refine AP.Dw (R:=λo=>AP l o (.bad i)) (aFE m hn) λk op x y fl ks tg nt hn=> ?_
 rw[show M.wC _ _ _ _ _ _ _ _ _=_ from aT rfl];simp only[ah,aG,dJ];exact AP.jI hn
def aFG(m:Nat){a b:Bool}{i:Nat}{nt:jf}(hn:nt.length<=l.length):AP l (M.qH (m+8) a b (aF l) (i:Int) true (encS nt)) (.bad i):=by
 rw[M.V6];simp only[M.uK,aG,dJ];refine AP.Dw (R:=λo=>AP l o (.bad i)) (aFF m hn) λk op x y fl ks tg nt hn=> ?_
 rw[show M.wE _ _ _ _ _ _ _ _ _=_ from aT rfl];simp only[ah,aG,dJ];exact AP.jI hn
def asv(m:Nat){a b:Bool}{i:Nat}{nt:jf}(hn:nt.length<=l.length):AP l (M.lT (m+9) a b (aF l) (i:Int) true (encS nt)) (.bad i):=by
 rw[M.P5];simp only[M.oq,M.uM,aG,dJ];refine AP.Dw (R:=λo=>AP l o (.bad i)) (aFG m hn) λk op x y fl ks tg nt hn=> ?_
 simp only[aG,dJ];exact AP.jI hn
def ax8(m:Nat){a b:Bool}{i:Nat}{nt:jf}(hn:nt.length<=l.length):AP l (M.jP (m+10) a b (aF l) (i:Int) true (encS nt)) (.bad i):=by
 rw[M.Tf];simp only[M.qy,M.xR,aG,dJ];refine AP.Dw (R:=λo=>AP l o (.bad i)) (asv m hn) λk op x y fl ks tg nt hn=> ?_
 simp only[aG,dJ];exact AP.jI hn
def aJ4(m:Nat){a b:Bool}{i:Nat}{nt:jf}(hn:nt.length<=l.length):AP l (M.sJ (m+11) a b (aF l) (i:Int) true (encS nt)) (.bad i):=by
 rw[M.XB];simp only[M.wF,M.Df,M.Dh,M.Di,M.uN,zaP,aQ,aG,dJ];refine AP.Dw (R:=λo=>AP l o (.bad i)) (ax8 m hn) λk op x y fl ks tg nt hn=> ?_
 rw[show M.iO _ _ _=_ from aT rfl];simp only[ah,aG,dJ,jX,letE];exact AP.jI hn
def aFH(m:Nat){a b:Bool}{i:Nat}{nt:jf}(hn:nt.length<=l.length):AP l (M.qI (m+12) a b (aF l) (i:Int) true (encS nt)) (.bad i):=by
 rw[M.V7];simp only[M.uO,aG,dJ];refine AP.Dw (R:=λo=>AP l o (.bad i)) (aJ4 m hn) λk op x y fl ks tg nt hn=> ?_
 rw[show M.wG _ _ _ _ _ _ _ _ _=_ from aT rfl];simp only[ah,aG,dJ];exact AP.jI hn
def aJ5(m:Nat){a b:Bool}{i:Nat}{nt:jf}(hn:nt.length<=l.length):AP l (M.wI (m+13) a b (aF l) (i:Int) true (encS nt)) (.bad i):=by
 rw[M.XC];simp only[M.wH,aG,dJ];refine AP.Dw (R:=λo=>AP l o (.bad i)) (aFH m hn) λk op x y fl ks tg nt hn=> ?_
 rw[show M.yx _ _ _ _ _ _ _ _ _=_ from aT rfl];simp only[ah,aG,dJ];exact AP.jI hn
def aBd(m:Nat){a b:Bool}{i:Nat}{nt:jf}(hn:nt.length<=l.length):AP l (M.pz (m+14) a b (aF l) (i:Int) true (encS nt)) (.bad i):=by
 rw[M.U9];simp only[M.rU,aG,dJ];refine AP.Dw (R:=λo=>AP l o (.bad i)) (aJ5 m hn) λk op x y fl ks tg nt hn=> ?_
 simp only[aG,dJ];exact AP.jI hn
def auO(m:Nat){a b:Bool}{i:Nat}{nt:jf}(hn:nt.length<=l.length):AP l (M.gQ (m+15) a b (aF l) (i:Int) true (encS nt)) (.bad i):=by
 rw[M.RX];simp only[M.o9,aG,dJ];refine AP.Dw (R:=λo=>AP l o (.bad i)) (aBd m hn) λk op x y fl ks tg nt hn=> ?_
 simp only[aG,dJ];exact AP.jI hn
def AC(l:List Tk)(o:Option T10):PR Xp->Prop
 | .ok x j nt=>∃ks,aB ks=dG false x.1.kids/\o=some (aF l,(j:Int),false,x.1.kind,x.1.op,x.1.text,x.1.other,ks,tgt x,encS nt)
 | .bad j=>∃k op x y ks tg nt,nt.length<=l.length/\o=some (aF l,(j:Int),true,k,op,x,y,ks,tg,encS nt)
 | .out=>True
def AC.elim{o:Option T10}{p:PR Xp}(h:AC l o p){f:T10->Option TP}
  (hf:∀c1 b k op x y ks tg nt,f (aF l,c1,b,k,op,x,y,ks,tg,encS nt)=some (k,op,x,y,false,ks,tg,aF l,c1,b,encS nt)):AP l (o.bind f) p:=by
 cases p with
 |ok x j nt=>obtain⟨ks,h1,rfl⟩:=h;rw[ah,hf];exact AP.mk rfl rfl rfl rfl h1 rfl
 |bad j=>obtain⟨k,op,x,y,ks,tg,nt,h1,rfl⟩:=h;rw[ah,hf];exact AP.jI h1
 |out=>trivial
def Qz(hl:l.length<=1048576){bd:T10->Option (T10⊕T10)}{lv:Nat}{a b:Bool}{rec:Bool->Bool->ay->Int->Bool->ay->Option TP}(h3:3<=lv)(h10:lv<=10)
  (hstop:∀(i:Nat) k op x y ks tg nt,bd (aF l,(i:Int),true,k,op,x,y,ks,tg,encS nt)=some (.inr (aF l,(i:Int),true,k,op,x,y,ks,tg,encS nt)))
  (hend:∀(i:Nat) k op x y ks tg nt,Gz lv (b && Nat.beq lv 7) (aP l i)=false->bd (aF l,(i:Int),false,k,op,x,y,ks,tg,encS nt)=some (.inr (aF l,(i:Int),false,k,op,x,y,ks,tg,encS nt)))
  (hop:∀(i:Nat) k op x y ks tg nt,Gz lv (b && Nat.beq lv 7) (aP l i)=true->i<l.length->nt.length<=i->bd (aF l,(i:Int),false,k,op,x,y,ks,tg,encS nt)=
   (rec a b (aF l) (((bif Nat.beq lv 8 then(i,nt) else bif Nat.ble lv 4 then nl l (i+1) nt else(i+1,nt)).1:Nat):Int) false (encS (bif Nat.beq lv 8 then(i,nt) else bif Nat.ble lv 4 then nl l (i+1) nt else(i+1,nt)).2)).bind λr=>
    some (.inl (r.2.2.2.2.2.2.2.1,r.2.2.2.2.2.2.2.2.1,r.2.2.2.2.2.2.2.2.2.1,12,(bif Nat.beq lv 8 then 99 else aP l i),[],[],
     aB [[D.int .i64 k,D.int .i64 op,D.str x,D.str y,D.sl false 5 ks],[D.int .i64 r.1,D.int .i64 r.2.1,D.str r.2.2.1,D.str r.2.2.2.1,D.sl false 5 (aB r.2.2.2.2.2.1)]],false,r.2.2.2.2.2.2.2.2.2.2))):
  ∀n,(∀n',n'<=n->∀i nt,i<=l.length->nt.length<=i->AP l (rec a b (aF l) (i:Int) false (encS nt)) (ex l n' (lv+1) a b i nt))->
   ∀x i nt ks,i<=l.length->nt.length<=i->aB ks=dG false x.1.kids->AC l (fJ bd (aF l,(i:Int),false,x.1.kind,x.1.op,x.1.text,x.1.other,ks,tgt x,encS nt)) (chP l n lv a b x i nt)
 |0,_,_,_,_,_,_,_,_=>by rw[chP];trivial
 |n+1,hrec,x,i,nt,ks,hi,hn,hk=>by
  rw[chP];cases hc:Gz lv (b && Nat.beq lv 7) (aP l i) with
  |false=>rw[aT (hend i _ _ _ _ _ _ nt hc)];exact⟨ks,hk,rfl⟩
  |true=>
   have hlt:=jH (ape h3 hc);have hq:=hop i x.1.kind x.1.op x.1.text x.1.other ks (tgt x) nt hc hlt hn;have hqb:FN l i nt.length (bif Nat.beq lv 8 then(i,nt) else bif Nat.ble lv 4 then nl l (i+1) nt else(i+1,nt)).1 (bif Nat.beq lv 8 then(i,nt) else bif Nat.ble lv 4 then nl l (i+1) nt else(i+1,nt)).2.length:=by
    cases Nat.beq lv 8<;>cases Nat.ble lv 4<;>simp only[aG,aQ]
    ·omega
    ·have:=NR (l:=l) (i:=i+1) (nt:=nt) ak;omega
    ·omega
    ·omega
   simp only[aG];generalize (bif Nat.beq lv 8 then(i,nt) else bif Nat.ble lv 4 then nl l (i+1) nt else(i+1,nt))=q at hq hqb|-;have hr:=hrec n (Nat.le_succ n) q.1 q.2 ak ak;have hs:=(sats l n).ex (lv+1) a b q.1 q.2 ak ak ak;generalize ex l n (lv+1) a b q.1 q.2=p at hr hs|-;cases p with
   |ok y j m=>obtain⟨fl,kt,h1,h2⟩:=hr;have hs':FE l q.1 q.2.length y.1.size j m.length:=hs;rw[h2,ah] at hq;rw[cu hq];exact Qz hl h3 h10 hstop hend hop n (λn' h=>hrec n' ak) (Tn.mk 12 (bif Nat.beq lv 8 then 99 else aP l i) [] [] [x.1,y.1],false) j m _ ak ak (by rw[fz2 hk (La h1),iY];rfl)
   |bad j=>obtain⟨k,op,x',y',fl,kt,tg,m,h1,h2⟩:=hr;rw[h2,ah] at hq;rw[cu hq,aT (hstop j _ _ _ _ _ _ m)];exact⟨_,_,_,_,_,_,_,h1,rfl⟩
   |out=>trivial
variable {l:List Tk}
def ah1{lv:Nat}{k:Int}(h:Nat.beq lv 8=false):Gz lv false k=(iT k==(lv:Int)):=by rw[Gz,h];simp
def lv3(k:Int):(k==44)=(iT k==3):=by
 cases h:k==44 with
 |true=>rw[iT,h];rfl
 |false=>rw[iT,h,aQ];cases k==45<;>cases(k==67||k==46)<;>cases(k==63||(k==48||(k==47||(k==50||(k==62||k==49)))))<;>cases k==99<;>cases(k==55||k==56)<;>cases(k==57||(k==58||k==59))<;>cases k==60<;>rfl
def lv4(k:Int):(k==45)=(iT k==4):=by
 cases h4:k==44 with
 |true=>
  have e:k=44:=by rwa [beq_iff_eq] at h4
  rw[e];rfl
 |false=>
  cases h:k==45 with
  |true=>rw[iT,h4,h];rfl
  |false=>rw[iT,h4,h,aQ,aQ];cases(k==67||k==46)<;>cases(k==63||(k==48||(k==47||(k==50||(k==62||k==49)))))<;>cases k==99<;>cases(k==55||k==56)<;>cases(k==57||(k==58||k==59))<;>cases k==60<;>rfl
structure RI(l:List Tk)(n m:Nat):Prop where
 e1:∀a b i nt,i<=l.length->nt.length<=i->AP l (M.gQ m a b (aF l) (i:Int) false (encS nt)) (ex l n 1 a b i nt)
 e2:∀a b i nt,i<=l.length->nt.length<=i->AP l (M.pz m a b (aF l) (i:Int) false (encS nt)) (ex l n 2 a b i nt)
 e3:∀a b i nt,i<=l.length->nt.length<=i->AP l (M.wI m a b (aF l) (i:Int) false (encS nt)) (ex l n 3 a b i nt)
 e4:∀a b i nt,i<=l.length->nt.length<=i->AP l (M.qI m a b (aF l) (i:Int) false (encS nt)) (ex l n 4 a b i nt)
 e5:∀a b i nt,i<=l.length->nt.length<=i->AP l (M.sJ m a b (aF l) (i:Int) false (encS nt)) (ex l n 5 a b i nt)
 e6:∀a b i nt,i<=l.length->nt.length<=i->AP l (M.jP m a b (aF l) (i:Int) false (encS nt)) (ex l n 6 a b i nt)
 e7:∀a b i nt,i<=l.length->nt.length<=i->AP l (M.lT m a b (aF l) (i:Int) false (encS nt)) (ex l n 7 a b i nt)
 e8:∀a b i nt,i<=l.length->nt.length<=i->AP l (M.qH m a b (aF l) (i:Int) false (encS nt)) (ex l n 8 a b i nt)
 e9:∀a b i nt,i<=l.length->nt.length<=i->AP l (M.oG m a b (aF l) (i:Int) false (encS nt)) (ex l n 9 a b i nt)
 e10:∀a b i nt,i<=l.length->nt.length<=i->AP l (M.qG m a b (aF l) (i:Int) false (encS nt)) (ex l n 10 a b i nt)
 e11:∀a b i nt,i<=l.length->nt.length<=i->AP l (M.jO m a b (aF l) (i:Int) false (encS nt)) (ex l n 11 a b i nt)
 e12:∀a b i nt,i<=l.length->nt.length<=i->AP l (M.uQ m a b (aF l) (i:Int) false (encS nt)) (ex l n 12 a b i nt)
 e13:∀a b i nt,i<=l.length->nt.length<=i->AP l (M.rV m (aF l) (i:Int) false (encS nt)) (ex l n 13 a b i nt)
 e14:∀a b i nt,i<=l.length->nt.length<=i->AP l (M.lZ m (aF l) (i:Int) false (encS nt)) (ex l n 14 a b i nt)
 e15:∀a b i nt,i<=l.length->nt.length<=i->AP l (M.ou m (aF l) (i:Int) false (encS nt)) (ex l n 15 a b i nt)
 pre:∀i nt,i<l.length->nt.length<=i->AP l (M.pq m (aF l) (i:Int) false (encS nt)) (afK l n i nt)
 its:∀a b i nt,i<=l.length->nt.length<=i->AL l (M.kS m a b (aF l) (i:Int) false (encS nt)) (WO l n a b [] i nt)
def aBe(hl:l.length<=1048576){m n:Nat}{i:Nat}{nt:jf}(h:AL l (M.kS m false false (aF l) (i:Int) false (encS nt)) (WO l n false false [] i nt))(hi:i<=l.length)(hn:nt.length<=i):
  AL l (M.jm (m+1) 35 (aF l) (i:Int) false (encS nt)) ((WO l n false false [] i nt).bind λL i nt=>(lU l 35 i nt).bind λ_ i nt=> .ok L i nt):=by
 rw[M.U7];have h3:((35:Int)==33)=false:=rfl;simp only[M.rO,M.y8,dJ,aG,dV,ah,h3,aQ,Bool.cond_self];refine AL.elim (R:=AL l) h (λ_=>trivial) (λfl ks j nt hn=> ?_) (λL fl j nt he=> ?_)
 ·simp only[dJ,aG,sU,ah];exact⟨_,_,_,hn,rfl⟩
 ·have hs:=ql (anJ hi) he;simp only[dJ,aG];refine KN (R:=AL l) hl (by decide) ?_ (λ_ _=> ?_)
  ·simp only[dJ,aG];exact⟨_,_,_,ak,rfl⟩
  ·simp only[dJ,aG,iY];exact⟨_,rfl⟩
def aBf(hl:l.length<=1048576){m n:Nat}{i:Nat}{nt:jf}(h:AL l (M.kS m false false (aF l) (i:Int) false (encS nt)) (WO l n false false [] i nt))(hi:i<=l.length)(hn:nt.length<=i):
  AL l (M.jm (m+1) 33 (aF l) (i:Int) false (encS nt)) (WM l (n+1) 33 i nt):=by
 rw[M.U7,WM];simp only[M.rO,M.y8,dJ,aG,dV,ah,BEq.rfl];cases hc:aP l i==33 with
 |true=>have hlt:=fE hc (by decide);simp only[aG,ny hl hlt];exact⟨_,rfl⟩
 |false=>
  simp only[aQ];refine AL.elim (R:=AL l) h (λ_=>trivial) (λfl ks j nt hn=> ?_) (λL fl j nt he=> ?_)
  ·simp only[dJ,aG,sU,ah];exact⟨_,_,_,hn,rfl⟩
  ·have hs:=ql (anJ hi) he;simp only[dJ,aG];refine KN (R:=AL l) hl (by decide) ?_ (λ_ _=> ?_)
   ·simp only[dJ,aG];exact⟨_,_,_,ak,rfl⟩
   ·simp only[dJ,aG,iY];exact⟨_,rfl⟩
def aFI(l:List Tk)(n i:Nat)(nt:jf):PR Xp:=bif aP l (i+1)==34 then(WO l n false false [] (i+2) nt).bind λL j nt=>(lU l 35 j nt).bind λ_ j nt=> .ok (.mk 5 0 (Bv l i) [] L,false) j nt else XL 1 l i nt
def aG4(hl:l.length<=1048576){m n:Nat}{i:Nat}{nt:jf}(h:∀i nt,i<=l.length->nt.length<=i->AL l (M.kS m false false (aF l) (i:Int) false (encS nt)) (WO l n false false [] i nt))(hi:i<l.length)(hn:nt.length<=i):
  AP l (M.uP (m+2) (aF l) (i:Int) false (encS nt)) (aFI l n i nt):=by
 rw[M.Yp,aFI];simp only[M.pX,dJ,aG,KL hl hi,ah,dV];cases hc:aP l (i+1)==34 with
 |true=>
  have hlt:=fE hc (by decide);simp only[aG,ny hl hlt];have hL:=aBe hl (h (i+2) nt ak ak) ak ak;have e:(WO l n false false [] (i+2) nt).bind (λL j nt=>(lU l 35 j nt).bind λ_ j nt=>PR.ok ((Tn.mk 5 0 (Bv l i) [] L,false):Xp) j nt)=
    ((WO l n false false [] (i+2) nt).bind λL i nt=>(lU l 35 i nt).bind λ_ i nt=> .ok L i nt).bind λL j nt=> .ok ((Tn.mk 5 0 (Bv l i) [] L,false):Xp) j nt:=by
   cases WO l n false false [] (i+2) nt with
   |ok L j m=>simp only[PR.bind];cases lU l 35 j m<;>rfl
   |bad j=>rfl
   |out=>rfl
  rw[e];refine AL.elim (R:=AP l) hL (λ_=>trivial) (λfl ks j nt hn=> ?_) (λL fl j nt he=> ?_)
  ·simp only[dJ,aG];exact AP.jI hn
  ·simp only[dJ,aG,iY];exact AP.mk rfl rfl rfl rfl (iY _ _) rfl
 |false=>simp only[aQ];exact AP.mk rfl rfl rfl rfl rfl rfl
section
variable {n m:Nat} (hl:l.length<=1048576) (H:∀n',n'<=n->∀m',4 * n'+30<=m'->RI l n' m') (hm:4 * (n+1)+30<=m+1)
include hl H hm
theorem aRX(a b:Bool)(i:Nat)(nt:jf)(hi:i<=l.length)(hn:nt.length<=i):AP l (M.gQ (m+1) a b (aF l) (i:Int) false (encS nt)) (ex l (n+1) 1 a b i nt):=by
 have h:=H n (zaQ _) m ak;rw[M.RX];simp only[M.o9,dJ,aG,ex];refine AP.elim (R:=AP l) (h.e2 a b i nt hi hn) (λ_=>trivial) (λk op x y fl ks tg j nt hn=> ?_) (λx fl ks j nt hk he=> ?_)
 ·simp only[aG,dJ];exact AP.jI hn
 ·have hs:=ql (IE ak ak hi) he;simp only[aQ,dJ,aG,dV,ah,(Wi _).2];cases ht:tgt x with
  |false=>simp only[Bool.not_false,aG,Bool.false_and,aQ];exact AP.mk rfl rfl rfl rfl (La hk) ht.symm
  |true=>
   simp only[zaP,aQ,Bool.true_and];cases hc:Sr (aP l j) with
   |false=>simp only[Bool.not_false,aG,aQ];exact AP.mk rfl rfl rfl rfl (La hk) ht.symm
   |true=>
    have hlt:=jH (aAz hc);simp only[zaP,aQ,aG,ny hl hlt];refine AP.elim (R:=AP l) (h.e1 a b (j+1) nt ak ak) (λ_=>trivial) (λk op x y fl ks tg j nt hn=> ?_) (λy fl' kt j' Zo hk' he'=> ?_)
    ·simp only[aG,dJ];exact AP.jI hn
    ·simp only[aG,dJ];exact AP.mk rfl rfl rfl rfl (fz2 (La hk) (La hk')) rfl
theorem aRY(a b:Bool)(i:Nat)(nt:jf)(hi:i<=l.length)(hn:nt.length<=i):AP l (M.pz (m+1) a b (aF l) (i:Int) false (encS nt)) (ex l (n+1) 2 a b i nt):=by
 have h:=H n (zaQ _) m ak;rw[M.U9];simp only[M.rU,dJ,aG,ex];refine AP.elim (R:=AP l) (h.e3 a b i nt hi hn) (λ_=>trivial) (λk op x y fl ks tg j nt hn=> ?_) (λx fl ks j nt hk he=> ?_)
 ·simp only[aG,dJ];exact AP.jI hn
 ·have hs:=ql (IE ak ak hi) he;simp only[aQ,dJ,aG,dV,ah,bne];cases hc:aP l j==65 with
  |false=>simp only[Bool.not_false,aG,aQ];exact AP.mk rfl rfl rfl rfl (La hk) rfl
  |true=>
   have hlt:=fE hc (by decide);simp only[zaP,aQ,aG,ny hl hlt];refine AP.elim (R:=AP l) (h.e2 a b (j+1) nt ak ak) (λ_=>trivial) (λk op x y fl ks tg j nt hn=> ?_) (λy fl' kt j' Zo hk' he'=> ?_)
   ·simp only[aG,dJ,sU,ah];exact AP.jI hn
   ·have hs':=ql (IE ak ak ak) he';simp only[aG,dJ];refine KN (R:=AP l) hl (by decide) ?_ (λ_ _=> ?_)
    ·simp only[dJ,aG];exact AP.jI ak
    ·simp only[dJ,aG,aQ];refine AP.elim (R:=AP l) (h.e2 a b (j'+1) Zo ak ak) (λ_=>trivial) (λk op x y fl ks tg j nt hn=> ?_) (λz aZW ku j'' a0K hk'' aZX=> ?_)
     ·simp only[aG,dJ];exact AP.jI hn
     ·simp only[aG,dJ];exact AP.mk rfl rfl rfl rfl (fz3 (La hk) (La hk') (La hk'')) rfl
theorem aRZ(a b:Bool)(i:Nat)(nt:jf)(hi:i<=l.length)(hn:nt.length<=i):AP l (M.wI (m+1) a b (aF l) (i:Int) false (encS nt)) (ex l (n+1) 3 a b i nt):=by
 have h:=H n (zaQ _) m ak;rw[M.XC];simp only[M.wH,dJ,aG,ex];refine AP.elim (R:=AP l) (h.e4 a b i nt hi hn) (λ_=>trivial) (λk op x y fl ks tg j nt hn=> ?_) (λx fl ks j nt hk he=> ?_)
 ·rw[show M.yx _ _ _ _ _ _ _ _ _=_ from aT rfl];simp only[ah,aG,dJ];exact AP.jI hn
 ·have hs:=ql (IE ak ak hi) he;rw[M.yx];refine AC.elim (Qz hl (lv:=3) (a:=a) (b:=b) (rec:=M.qI m) ak ak ?_ ?_ ?_ n (λn' hn' i nt hi hn=>(H n' hn' m ak).e4 a b i nt hi hn) x j nt _ ak ak (La hk)) (by intros;simp only[aG,dJ])
  ·intros
   rfl
  ·intro i k op x y ks tg nt hc;have hb:(b && Nat.beq 3 7)=false:=Bool.and_false b;rw[hb] at hc;have hk:(aP l i==44)=false:=by rw[lv3];exact(ah1 (lv:=3) rfl).symm.trans hc
   simp only[M.KF,M.zh,Bool.not_false,aG,dJ,dV,ah,hk,aQ]
  ·intro i k op x y ks tg nt hc hlt hn;have hb:(b && Nat.beq 3 7)=false:=Bool.and_false b;rw[hb] at hc;have hk:(aP l i==44)=true:=by rw[lv3];exact(ah1 (lv:=3) rfl).symm.trans hc
   have hk':aP l i=44:=by rwa [beq_iff_eq] at hk
   simp only[M.KF,M.zh,Bool.not_false,aG,dJ,dV,ah,hk,ny hl hlt,Qy hl (i+1) nt ak ak,M.lK,M.Az];rw[hk'];rfl
theorem aR0(a b:Bool)(i:Nat)(nt:jf)(hi:i<=l.length)(hn:nt.length<=i):AP l (M.qI (m+1) a b (aF l) (i:Int) false (encS nt)) (ex l (n+1) 4 a b i nt):=by
 have h:=H n (zaQ _) m ak;rw[M.V7];simp only[M.uO,dJ,aG,ex];refine AP.elim (R:=AP l) (h.e5 a b i nt hi hn) (λ_=>trivial) (λk op x y fl ks tg j nt hn=> ?_) (λx fl ks j nt hk he=> ?_)
 ·rw[show M.wG _ _ _ _ _ _ _ _ _=_ from aT rfl];simp only[ah,aG,dJ];exact AP.jI hn
 ·have hs:=ql (IE ak ak hi) he;rw[M.wG];refine AC.elim (Qz hl (lv:=4) (a:=a) (b:=b) (rec:=M.sJ m) ak ak ?_ ?_ ?_ n (λn' hn' i nt hi hn=>(H n' hn' m ak).e5 a b i nt hi hn) x j nt _ ak ak (La hk)) (by intros;simp only[aG,dJ])
  ·intros
   rfl
  ·intro i k op x y ks tg nt hc;have hb:(b && Nat.beq 4 7)=false:=Bool.and_false b;rw[hb] at hc;have hk:(aP l i==45)=false:=by rw[lv4];exact(ah1 (lv:=4) rfl).symm.trans hc
   simp only[M.Jl,M.xU,Bool.not_false,aG,dJ,dV,ah,hk,aQ]
  ·intro i k op x y ks tg nt hc hlt hn;have hb:(b && Nat.beq 4 7)=false:=Bool.and_false b;rw[hb] at hc;have hk:(aP l i==45)=true:=by rw[lv4];exact(ah1 (lv:=4) rfl).symm.trans hc
   have hk':aP l i=45:=by rwa [beq_iff_eq] at hk
   simp only[M.Jl,M.xU,Bool.not_false,aG,dJ,dV,ah,hk,ny hl hlt,Qy hl (i+1) nt ak ak,M.lK,M.Az];rw[hk'];rfl
theorem aR1(a b:Bool)(i:Nat)(nt:jf)(hi:i<=l.length)(hn:nt.length<=i):AP l (M.qH (m+1) a b (aF l) (i:Int) false (encS nt)) (ex l (n+1) 8 a b i nt):=by
 have h:=H n (zaQ _) m ak;rw[M.V6];simp only[M.uK,dJ,aG,ex];refine AP.elim (R:=AP l) (h.e9 a b i nt hi hn) (λ_=>trivial) (λk op x y fl ks tg j nt hn=> ?_) (λx fl ks j nt hk he=> ?_)
 ·rw[show M.wE _ _ _ _ _ _ _ _ _=_ from aT rfl];simp only[ah,aG,dJ];exact AP.jI hn
 ·have hs:=ql (IE ak ak hi) he;rw[M.wE];refine AC.elim (Qz hl (lv:=8) (a:=a) (b:=b) (rec:=M.oG m) ak ak ?_ ?_ ?_ n (λn' hn' i nt hi hn=>(H n' hn' m ak).e9 a b i nt hi hn) x j nt _ ak ak (La hk)) (by intros;simp only[aG,dJ])
  ·intros
   rfl
  ·intro i k op x y ks tg nt hc;have hb:(b && Nat.beq 8 7)=false:=Bool.and_false b;rw[hb] at hc;have hk:agZ (aP l i)=false:=hc;simp only[M.Jk,M.xQ,Bool.not_false,aG,dJ,dV,ah,aG3,hk,aQ]
  ·intro i k op x y ks tg nt hc hlt hn;have hb:(b && Nat.beq 8 7)=false:=Bool.and_false b;rw[hb] at hc;have hk:agZ (aP l i)=true:=hc;simp only[M.Jk,M.xQ,Bool.not_false,aG,dJ,dV,ah,aG3,hk,M.lK,M.Az];rfl
theorem aR2(a b:Bool)(i:Nat)(nt:jf)(hi:i<=l.length)(hn:nt.length<=i):AP l (M.oG (m+1) a b (aF l) (i:Int) false (encS nt)) (ex l (n+1) 9 a b i nt):=by
 have h:=H n (zaQ _) m ak;rw[M.V5];simp only[M.uJ,dJ,aG,ex];refine AP.elim (R:=AP l) (h.e10 a b i nt hi hn) (λ_=>trivial) (λk op x y fl ks tg j nt hn=> ?_) (λx fl ks j nt hk he=> ?_)
 ·rw[show M.wC _ _ _ _ _ _ _ _ _=_ from aT rfl];simp only[ah,aG,dJ];exact AP.jI hn
 ·have hs:=ql (IE ak ak hi) he;rw[M.wC];refine AC.elim (Qz hl (lv:=9) (a:=a) (b:=b) (rec:=M.qG m) ak ak ?_ ?_ ?_ n (λn' hn' i nt hi hn=>(H n' hn' m ak).e10 a b i nt hi hn) x j nt _ ak ak (La hk)) (by intros;simp only[aG,dJ])
  ·intros
   rfl
  ·intro i k op x y ks tg nt hc;have hb:(b && Nat.beq 9 7)=false:=Bool.and_false b;rw[hb] at hc;have hk:(iT (aP l i)==9)=false:=(ah1 (lv:=9) rfl).symm.trans hc;simp only[M.Jj,M.xP,Bool.not_false,aG,dJ,dV,ah,(Qx _).1,hk,aQ]
  ·intro i k op x y ks tg nt hc hlt hn;have hb:(b && Nat.beq 9 7)=false:=Bool.and_false b;rw[hb] at hc;have hk:(iT (aP l i)==9)=true:=(ah1 (lv:=9) rfl).symm.trans hc;simp only[M.Jj,M.xP,Bool.not_false,aG,dJ,dV,ah,(Qx _).1,hk,ny hl hlt,M.lK,M.Az];rfl
theorem aJ6(a b:Bool)(i:Nat)(nt:jf)(hi:i<=l.length)(hn:nt.length<=i):AP l (M.qG (m+1) a b (aF l) (i:Int) false (encS nt)) (ex l (n+1) 10 a b i nt):=by
 have h:=H n (zaQ _) m ak;rw[M.V4];simp only[M.uI,dJ,aG,ex];refine AP.elim (R:=AP l) (h.e11 a b i nt hi hn) (λ_=>trivial) (λk op x y fl ks tg j nt hn=> ?_) (λx fl ks j nt hk he=> ?_)
 ·rw[show M.wB _ _ _ _ _ _ _ _ _=_ from aT rfl];simp only[ah,aG,dJ];exact AP.jI hn
 ·have hs:=ql (IE ak ak hi) he;rw[M.wB];refine AC.elim (Qz hl (lv:=10) (a:=a) (b:=b) (rec:=M.jO m) ak ak ?_ ?_ ?_ n (λn' hn' i nt hi hn=>(H n' hn' m ak).e11 a b i nt hi hn) x j nt _ ak ak (La hk)) (by intros;simp only[aG,dJ])
  ·intros
   rfl
  ·intro i k op x y ks tg nt hc;have hb:(b && Nat.beq 10 7)=false:=Bool.and_false b;rw[hb] at hc;have hk:(iT (aP l i)==10)=false:=(ah1 (lv:=10) rfl).symm.trans hc;simp only[M.Ji,M.xO,Bool.not_false,aG,dJ,dV,ah,(Qx _).1,hk,aQ]
  ·intro i k op x y ks tg nt hc hlt hn;have hb:(b && Nat.beq 10 7)=false:=Bool.and_false b;rw[hb] at hc;have hk:(iT (aP l i)==10)=true:=(ah1 (lv:=10) rfl).symm.trans hc;simp only[M.Ji,M.xO,Bool.not_false,aG,dJ,dV,ah,(Qx _).1,hk,ny hl hlt,M.lK,M.Az];rfl
theorem aR3(a b:Bool)(i:Nat)(nt:jf)(hi:i<=l.length)(hn:nt.length<=i):AP l (M.jP (m+1) a b (aF l) (i:Int) false (encS nt)) (ex l (n+1) 6 a b i nt):=by
 have h:=H n (zaQ _) m ak;rw[M.Tf];simp only[M.qy,M.xR,dJ,aG,ex];refine AP.elim (R:=AP l) (h.e7 a b i nt hi hn) (λ_=>trivial) (λk op x y fl ks tg j nt hn=> ?_) (λx fl ks j nt hk he=> ?_)
 ·simp only[aG,dJ];exact AP.jI hn
 ·have hs:=ql (IE ak ak hi) he;simp only[aQ,dJ,aG,dV,ah,bne,M.lK,M.Az];have hgo:j<l.length->AP l ((M.lT m a b (aF l) ((j+1:Nat):Int) false (encS nt)).bind λr=>
    bif aj r.2.2.2.2.2.2.2.2.2.2 then some (12,aP l j,[],[],false,aB [[D.int .i64 x.1.kind,D.int .i64 x.1.op,D.str x.1.text,D.str x.1.other,D.sl false 5 (aB ks)],[D.int .i64 r.1,D.int .i64 r.2.1,D.str r.2.2.1,D.str r.2.2.2.1,D.sl false 5 (aB r.2.2.2.2.2.1)]],false,
     r.2.2.2.2.2.2.2.1,r.2.2.2.2.2.2.2.2.1,r.2.2.2.2.2.2.2.2.2.1,r.2.2.2.2.2.2.2.2.2.2) else none) ((ex l n 7 a b (j+1) nt).bind λy j' nt=> .ok (.mk 12 (aP l j) [] [] [x.1,y.1],false) j' nt):=by
   intro hlt;refine AP.elim (R:=AP l) (h.e7 a b (j+1) nt ak ak) (λ_=>trivial) (λk op x y fl ks tg j nt hn=> ?_) (λy fl' kt j' Zo hk' he'=> ?_)
   ·simp only[aG,dJ];exact AP.jI hn
   ·simp only[aG,dJ];exact AP.mk rfl rfl rfl rfl (by rw[fz2 (La hk) (La hk'),iY];rfl) rfl
  cases hc:aP l j==67 with
  |true=>have hlt:=fE hc (by decide);simp only[zaP,aQ,aG,Bool.true_or,ny hl hlt];exact hgo hlt
  |false=>
   cases hc':aP l j==46 with
   |true=>have hlt:=fE hc' (by decide);simp only[zaP,Bool.not_false,aQ,aG,Bool.or_true,ny hl hlt];exact hgo hlt
   |false=>simp only[Bool.not_false,aQ,aG,Bool.or_false];exact AP.mk rfl rfl rfl rfl (La hk) rfl
theorem aR4(a b:Bool)(i:Nat)(nt:jf)(hi:i<=l.length)(hn:nt.length<=i):AP l (M.lT (m+1) a b (aF l) (i:Int) false (encS nt)) (ex l (n+1) 7 a b i nt):=by
 have h:=H n (zaQ _) m ak;rw[M.P5];simp only[M.oq,M.uM,dJ,aG,ex];refine AP.elim (R:=AP l) (h.e8 a b i nt hi hn) (λ_=>trivial) (λk op x y fl ks tg j nt hn=> ?_) (λx fl ks j nt hk he=> ?_)
 ·simp only[aG,dJ];exact AP.jI hn
 ·have hs:=ql (IE ak ak hi) he;simp only[aQ,dJ,aG,dV,ah,bne,M.lK,M.Az,(Qx _).1];have hgo:j<l.length->AP l ((M.qH m a b (aF l) ((j+1:Nat):Int) false (encS nt)).bind λr=>
    bif aj r.2.2.2.2.2.2.2.2.2.2 then some (12,aP l j,[],[],false,aB [[D.int .i64 x.1.kind,D.int .i64 x.1.op,D.str x.1.text,D.str x.1.other,D.sl false 5 (aB ks)],[D.int .i64 r.1,D.int .i64 r.2.1,D.str r.2.2.1,D.str r.2.2.2.1,D.sl false 5 (aB r.2.2.2.2.2.1)]],false,
     r.2.2.2.2.2.2.2.1,r.2.2.2.2.2.2.2.2.1,r.2.2.2.2.2.2.2.2.2.1,r.2.2.2.2.2.2.2.2.2.2) else none) ((ex l n 8 a b (j+1) nt).bind λy j' nt=> .ok (.mk 12 (aP l j) [] [] [x.1,y.1],false) j' nt):=by
   intro hlt;refine AP.elim (R:=AP l) (h.e8 a b (j+1) nt ak ak) (λ_=>trivial) (λk op x y fl ks tg j nt hn=> ?_) (λy fl' kt j' Zo hk' he'=> ?_)
   ·simp only[aG,dJ];exact AP.jI hn
   ·simp only[aG,dJ];exact AP.mk rfl rfl rfl rfl (by rw[fz2 (La hk) (La hk'),iY];rfl) rfl
  have e7:Gz 7 b (aP l j)=(iT (aP l j)==7 && !(b && aP l j==62)):=rfl;rw[e7];cases hc:iT (aP l j)==7 with
  |false=>simp only[Bool.not_false,aQ,aG,Bool.false_and];exact AP.mk rfl rfl rfl rfl (La hk) rfl
  |true=>
   have hlt:j<l.length:=by
    refine jH λe=> ?_
    rw[e] at hc;exact absurd hc (by decide)
   simp only[zaP,aQ,aG,Bool.true_and,ny hl hlt];cases b with
   |false=>simp only[Bool.false_and,Bool.not_false,aG,aQ];exact hgo hlt
   |true=>
    simp only[Bool.true_and,aG];cases hc':aP l j==62 with
    |true=>simp only[zaP,aQ,aG];exact AP.mk rfl rfl rfl rfl (La hk) rfl
    |false=>simp only[Bool.not_false,aQ,aG];exact hgo hlt
theorem aJ7(a b:Bool)(i:Nat)(nt:jf)(hi:i<=l.length)(hn:nt.length<=i):AP l (M.jO (m+1) a b (aF l) (i:Int) false (encS nt)) (ex l (n+1) 11 a b i nt):=by
 have h:=H n (zaQ _) m ak;rw[M.Td];simp only[M.qx,M.xM,M.sH,dJ,aG,ex,dV,ah,aQ,bne];have hgo:i<l.length->AP l ((M.jO m a b (aF l) ((i+1:Nat):Int) false (encS nt)).bind λr=>
   bif aj r.2.2.2.2.2.2.2.2.2.2 then some (11,aP l i,[],[],true,[[D.int .i64 r.1,D.int .i64 r.2.1,D.str r.2.2.1,D.str r.2.2.2.1,D.sl false 5 (aB r.2.2.2.2.2.1)]],false,
    r.2.2.2.2.2.2.2.1,r.2.2.2.2.2.2.2.2.1,r.2.2.2.2.2.2.2.2.2.1,r.2.2.2.2.2.2.2.2.2.2) else none) ((ex l n 11 a b (i+1) nt).bind λx j nt=> .ok (.mk 11 (aP l i) [] [] [x.1],false) j nt):=by
  intro hlt;refine AP.elim (R:=AP l) (h.e11 a b (i+1) nt ak ak) (λ_=>trivial) (λk op x y fl ks tg j nt hn=> ?_) (λy fl' kt j' Zo hk' he'=> ?_)
  ·simp only[aG,dJ];exact AP.jI hn
  ·simp only[aG,dJ];exact AP.mk rfl rfl rfl rfl (fz1 (La hk')) rfl
 cases h5:aP l i==55 with
 |true=>have hlt:=fE h5 (by decide);simp only[zaP,aQ,aG,Bool.true_or,ny hl hlt];exact hgo hlt
 |false=>
  cases h6:aP l i==56 with
  |true=>have hlt:=fE h6 (by decide);simp only[zaP,Bool.not_false,aQ,aG,Bool.true_or,Bool.or_true,ny hl hlt];exact hgo hlt
  |false=>
   cases h1:aP l i==61 with
   |true=>have hlt:=fE h1 (by decide);simp only[zaP,Bool.not_false,aQ,aG,Bool.true_or,Bool.or_true,ny hl hlt];exact hgo hlt
   |false=>simp only[Bool.not_false,aQ,aG,Bool.or_false];exact AP.pass (h.e12 a b i nt hi hn) (by intros;simp only[dJ,aG])
theorem aJ8(a b:Bool)(i:Nat)(nt:jf)(hi:i<=l.length)(hn:nt.length<=i):AP l (M.uQ (m+1) a b (aF l) (i:Int) false (encS nt)) (ex l (n+1) 12 a b i nt):=by
 have h:=H n (zaQ _) m ak;rw[M.V3];simp only[M.uH,dJ,aG,ex];refine AP.elim (R:=AP l) (h.e13 a b i nt hi hn) (λ_=>trivial) (λk op x y fl ks tg j nt hn=> ?_) (λx fl ks j nt hk he=> ?_)
 ·simp only[aG,dJ];exact AP.jI hn
 ·have hs:=ql (IE ak ak hi) he;simp only[aQ,dJ,aG,dV,ah,bne,M.lK,M.Az];cases hc:aP l j==60 with
  |false=>simp only[Bool.not_false,aG,aQ];exact AP.mk rfl rfl rfl rfl (La hk) rfl
  |true=>
   have hlt:=fE hc (by decide);simp only[zaP,aQ,aG,ny hl hlt];refine AP.elim (R:=AP l) (h.e11 a b (j+1) nt ak ak) (λ_=>trivial) (λk op x y fl ks tg j nt hn=> ?_) (λy fl' kt j' Zo hk' he'=> ?_)
   ·simp only[aG,dJ];exact AP.jI hn
   ·simp only[aG,dJ];exact AP.mk rfl rfl rfl rfl (by rw[fz2 (La hk) (La hk'),iY];rfl) rfl
theorem aJ9(a b:Bool)(i:Nat)(nt:jf)(hi:i<=l.length)(hn:nt.length<=i):AP l (M.rV (m+1) (aF l) (i:Int) false (encS nt)) (ex l (n+1) 13 a b i nt):=by
 have h:=H n (zaQ _) m ak;rw[M.U8];simp only[M.rQ,M.zf,dJ,aG,ex,Bool.not_false,dV,ah,auL];cases hc:isStep (aP l i) with
 |true=>have hlt:=jH (abC hc);simp only[aG];exact AP.pass (h.pre i nt hlt hn) (by intros;simp only[dJ,aG])
 |false=>
  simp only[aQ];refine AP.elim (R:=AP l) (h.e14 a b i nt hi hn) (λ_=>trivial) (λk op x y fl ks tg j nt hn=> ?_) (λx fl ks j nt hk he=> ?_)
  ·simp only[aG,dJ];exact AP.jI hn
  ·have hs:=ql (IE ak ak hi) he;simp only[aQ,dJ,aG,dV,ah,auL];cases ht:tgt x with
   |false=>simp only[Bool.not_false,aG,Bool.false_and,aQ];exact AP.mk rfl rfl rfl rfl (La hk) ht.symm
   |true=>
    simp only[zaP,aQ,Bool.true_and];cases hc:isStep (aP l j) with
    |false=>simp only[Bool.not_false,aG,aQ];exact AP.mk rfl rfl rfl rfl (La hk) ht.symm
    |true=>have hlt:=jH (abC hc);simp only[zaP,aQ,aG,ny hl hlt];exact AP.mk rfl rfl rfl rfl (fz1 (La hk)) rfl
theorem aKa(a b:Bool)(i:Nat)(nt:jf)(hi:i<=l.length)(hn:nt.length<=i):AP l (M.lZ (m+1) (aF l) (i:Int) false (encS nt)) (ex l (n+1) 14 a b i nt):=by
 have h:=H n (zaQ _) m ak;rw[M.Tc];simp only[M.qw,M.xJ,dJ,aG,aQ,ex,dV,ah,bne];cases hc:aP l i==68 with
 |false=>simp only[Bool.not_false,aG,aQ];exact AP.pass (h.e15 a b i nt hi hn) (by intros;simp only[dJ,aG])
 |true=>
  have hlt:=fE hc (by decide);simp only[zaP,aQ,aG,ny hl hlt,dV,ah,auL];cases hs:isStep (aP l (i+1)) with
  |true=>
   have hlt':=jH (abC hs);simp only[aG,dJ];refine AP.elim (R:=AP l) (h.pre (i+1) nt hlt' ak) (λ_=>trivial) (λk op x y fl ks tg j nt hn=> ?_) (λy fl' kt j' Zo hk' he'=> ?_)
   ·simp only[aG,dJ];exact AP.jI hn
   ·simp only[aG,dJ];exact AP.mk rfl rfl rfl rfl (fz1 (La hk')) rfl
  |false=>
   simp only[aQ,aG,dJ];refine AP.elim (R:=AP l) (h.e14 a b (i+1) nt ak ak) (λ_=>trivial) (λk op x y fl ks tg j nt hn=> ?_) (λy fl' kt j' Zo hk' he'=> ?_)
   ·simp only[aG,dJ];exact AP.jI hn
   ·simp only[aG,dJ];exact AP.mk rfl rfl rfl rfl (fz1 (La hk')) rfl
end
variable {l:List Tk}
def afV{L:List Tn}{x:Tn}{ks:ay}(h:aB ks=dG false x.kids):
  dG false L++[[D.int .i64 x.kind,D.int .i64 x.op,D.str x.text,D.str x.other,D.sl false 5 (aB ks)]]=dG false (L++[x]):=by
 rw[zJ,h,<-aug];rfl
def itF(u:zaw⊕zaK⊕zaw):Option TL:=
 jX u (λt=>bif aj t.2.2.2.2 then some (true,t.2.2.2.1,t.1,t.2.1,t.2.2.1,t.2.2.2.2) else none) λu=>
  jX u (λt=>bif aj t.2.2.2 then some (true,t.2.2.1,t.1,t.2.1,true,t.2.2.2) else none) λu=>
  letE u λt=>bif aj t.2.2.2.2 then some (true,t.2.2.2.1,t.1,t.2.1,t.2.2.1,t.2.2.2.2) else none
def alc(hl:l.length<=1048576){m:Nat}{a b:Bool}:∀n,(∀n',n'<n->∀i nt,i<=l.length->nt.length<=i->AP l (M.gQ m a b (aF l) (i:Int) false (encS nt)) (ex l n' 1 a b i nt))->
  ∀L i nt,L.length<6->i<=l.length->nt.length<=i->AL l ((M.sD (M.gQ m) a b (aF l,(i:Int),false,dG false L,encS nt)).bind itF) (WO l n a b L i nt)
 |0,_,_,_,_,_,_,_=>by rw[WO];trivial
 |n+1,hrec,L,i,nt,hL,hi,hn=>by
  have hr:=hrec n (Nat.lt_succ_self n) i nt hi hn;have hs:=(sats l n).ex 1 a b i nt ak ak hi;rw[WO,M.sD];have hb:M.Gi (M.gQ m) a b (aF l,(i:Int),false,dG false L,encS nt)=
    (M.gQ m a b (aF l) (i:Int) false (encS nt)).bind λyT=>
    (bif((dG false L).length+[[D.int .i64 yT.1,D.int .i64 yT.2.1,D.str yT.2.2.1,D.str yT.2.2.2.1,D.sl false 5 (aB yT.2.2.2.2.2.1)]].length) * 72|>.ble 140737488355328 then
    (bif((dG false L).length+[[D.int .i64 yT.1,D.int .i64 yT.2.1,D.str yT.2.2.1,D.str yT.2.2.2.1,D.sl false 5 (aB yT.2.2.2.2.2.1)]].length).ble 140737488355328 then
     (bif yT.2.2.2.2.2.2.2.2.2.1 then
     (some (.inr (.inl ((yT.2.2.2.2.2.2.2.1,yT.2.2.2.2.2.2.2.2.1,yT.2.2.2.2.2.2.2.2.2.1,dG false L++[[D.int .i64 yT.1,D.int .i64 yT.2.1,D.str yT.2.2.1,D.str yT.2.2.2.1,D.sl false 5 (aB yT.2.2.2.2.2.1)]],yT.2.2.2.2.2.2.2.2.2.2))))) else
     (bif aj yT.2.2.2.2.2.2.2.2.2.2 then
      ((M.aA yT.2.2.2.2.2.2.2.1 yT.2.2.2.2.2.2.2.2.1 yT.2.2.2.2.2.2.2.2.2.1 yT.2.2.2.2.2.2.2.2.2.2).bind λag8=>
      (bif ag8.1 !=36 then
       (some (.inr (.inl ((ag8.2.1,ag8.2.2.1,ag8.2.2.2.1,dG false L++[[D.int .i64 yT.1,D.int .i64 yT.2.1,D.str yT.2.2.1,D.str yT.2.2.2.1,D.sl false 5 (aB yT.2.2.2.2.2.1)]],ag8.2.2.2.2))))) else
       (bif((dG false L++[[D.int .i64 yT.1,D.int .i64 yT.2.1,D.str yT.2.2.1,D.str yT.2.2.2.1,D.sl false 5 (aB yT.2.2.2.2.2.1)]]).length:Int)==6 then
       (some (.inr (.inr (.inl ((ag8.2.1,ag8.2.2.1,dG false L++[[D.int .i64 yT.1,D.int .i64 yT.2.1,D.str yT.2.2.1,D.str yT.2.2.2.1,D.sl false 5 (aB yT.2.2.2.2.2.1)]],ag8.2.2.2.2)))))) else
       (bif aj ag8.2.2.2.2 then
        ((M.aK ag8.2.1 (i64.wrap (ag8.2.2.1+1)) ag8.2.2.2.1 ag8.2.2.2.2).bind λaoO=>
        (some (.inl ((aoO.1,aoO.2.1,aoO.2.2.1,dG false L++[[D.int .i64 yT.1,D.int .i64 yT.2.1,D.str yT.2.2.1,D.str yT.2.2.2.1,D.sl false 5 (aB yT.2.2.2.2.2.1)]],aoO.2.2.2))))) else none)))) else none)) else none) else none):=by
   simp only[yH,M.Gi,M.zH,Bool.not_false,aG,dJ]
  generalize ex l n 1 a b i nt=p at hr hs|-;cases p with
  |out=>trivial
  |bad j=>obtain⟨k,op,x',y',fl,kt,tg,m',h1,h2⟩:=hr;rw[h2,ah] at hb;simp only[dh,GK] at hb;rw[bC ak,aG,bC ak,aG,aG] at hb;rw[aT hb,ah];simp only[itF,jX,dJ,aG];exact⟨_,_,_,h1,rfl⟩
  |ok x j m'=>
   obtain⟨fl,kt,h1,h2⟩:=hr;have hs':FE l i nt.length x.1.size j m'.length:=hs;rw[h2,ah] at hb;simp only[afV h1,dh,GK,wM] at hb;rw[bC ak,aG,bC ak,aG,aQ,dJ,aG,dV,ah] at hb;simp only[PR.bind];simp only[bne] at hb;cases hc:aP l j==36 with
   |false=>simp only[hc,Bool.not_false,aG] at hb;rw[aT hb,ah];simp only[itF,jX,dJ,aG,aQ];exact⟨_,rfl⟩
   |true=>
    have hlt:=fE hc (by decide);simp only[hc,zaP,aQ,dJ,aG,ny hl hlt,Qy hl (j+1) m' ak ak,ah] at hb;rw[aG];cases h6:Nat.beq (L.length+1) 6 with
    |true=>
     have e:=Dy h6;have e':(((L.length+1:Nat):Int)==6)=true:=by rw[e];rfl
     rw[e',aG] at hb;rw[aT hb,ah,aG];simp only[itF,jX,dJ,aG];exact⟨_,_,_,ak,rfl⟩
    |false=>
     have e:L.length+1≠6:=Nat.ne_of_beq_eq_false h6;have e':(((L.length+1:Nat):Int)==6)=false:=by rw[mX];omega
     rw[e',aQ] at hb;rw[cu hb,aQ];have hf:=NR (l:=l) (i:=j+1) (nt:=m') ak;exact alc hl n (λn' h=>hrec n' ak) (L++[x.1]) _ _ (by rw[wM,GK];omega) ak ak
section
variable {n m:Nat} (hl:l.length<=1048576) (H:∀n',n'<=n->∀m',4 * n'+30<=m'->RI l n' m') (hm:4 * (n+1)+30<=m+1)
include hl H hm
theorem aKb(a b:Bool)(i:Nat)(nt:jf)(hi:i<=l.length)(hn:nt.length<=i):AL l (M.kS (m+1) a b (aF l) (i:Int) false (encS nt)) (WO l (n+1) a b [] i nt):=by rw[M.abV];exact alc hl (n+1) (λn' hn' i nt hi hn=>(H n' ak m ak).e1 a b i nt hi hn) [] i nt (by decide) hi hn
theorem aZY(i:Nat)(nt:jf)(hi:i<=l.length)(hn:nt.length<=i):AP l (M.Dj m (aF l) (i:Int) false (encS nt)) (bif aP l i==68||aP l i==6 then ex l n 14 false false i nt else .bad i):=by
 obtain⟨m2,rfl⟩:∃m2,m=m2+3:=⟨m - 3,ak⟩
 rw[M.aaG];simp only[M.sF,M.qM,aQ,dJ,aG,dV,ah];cases h8:aP l i==68 with
 |true=>simp only[aG,Bool.true_or];exact AP.pass ((H n (zaQ _) (m2+2) ak).e14 false false i nt hi hn) (by intros;simp only[dJ,aG])
 |false=>
  cases h6:aP l i==6 with
  |false=>simp only[aQ,Bool.or_self,auM,ah,dJ,aG];exact AP.jI ak
  |true=>
   have hlt:=fE h6 (by decide);have e:aP l i=6:=by rwa [beq_iff_eq] at h6
   simp only[aG,aQ,Bool.false_or];refine AP.pass ?_ (by intros;simp only[dJ,aG]);cases n with
   |zero=>rw[ex];trivial
   |succ n1=>
    have e1:ex l (n1+1) 14 false false i nt=ex l n1 15 false false i nt:=by simp only[ex,h8,aQ]
    rw[e1];cases n1 with
    |zero=>rw[ex];trivial
    |succ n2=>
     have h3:(aP l i==3)=false:=by rw[e];rfl
     have h4:(aP l i==4)=false:=by rw[e];rfl
     have h5:(aP l i==5)=false:=by rw[e];rfl
     have e2:ex l (n2+1) 15 false false i nt=aFI l n2 i nt:=by simp only[ex,h3,h4,h5,h6,aQ,aG,aFI]
     rw[e2];exact aG4 hl (λi nt hi hn=>(H n2 ak m2 ak).its false false i nt hi hn) hlt hn
theorem aKc(i:Nat)(nt:jf)(hi:i<l.length)(hn:nt.length<=i):AP l (M.pq (m+1) (aF l) (i:Int) false (encS nt)) (afK l (n+1) i nt):=by
 rw[M.aaH,afK];simp only[M.sG,dJ,aG,dV,ah,ny hl hi];have e:(bif aP l (i+1)==68||aP l (i+1)==6 then(ex l n 14 false false (i+1) nt).bind λx j nt=> .ok (.mk 9 (aP l i) [] [] [x.1],false) j nt else .bad (i+1):PR Xp)=
   (bif aP l (i+1)==68||aP l (i+1)==6 then ex l n 14 false false (i+1) nt else .bad (i+1)).bind λx j nt=> .ok (.mk 9 (aP l i) [] [] [x.1],false) j nt:=by
  cases(aP l (i+1)==68||aP l (i+1)==6)<;>rfl
 rw[e];refine AP.elim (R:=AP l) (aZY hl H hm (i+1) nt ak ak) (λ_=>trivial) (λk op x y fl ks tg j nt hn=> ?_) (λy fl' kt j' Zo hk' he'=> ?_)
 ·simp only[aG,dJ];exact AP.jI hn
 ·simp only[aG,dJ];exact AP.mk rfl rfl rfl rfl (fz1 (La hk')) rfl
theorem aBg(kd:Int)(hkd:SN kd=false)(i:Nat)(nt:jf)(hi:i<l.length)(hn:nt.length<=i):
  AP l ((M.aI 32 (aF l) ((i+1:Nat):Int) false (encS nt)).bind λr=>bif r.1 then(bif aj r.2.2.2.2 then(M.jm m 33 r.2.1 r.2.2.1 r.2.2.2.1 r.2.2.2.2).bind λr'=>bif aj r'.2.2.2.2.2 then some (kd,0,Bv l i,[],false,aB r'.2.1,false,r'.2.2.1,r'.2.2.2.1,r'.2.2.2.2.1,r'.2.2.2.2.2) else none else none)
   else(bif aj r.2.2.2.2 then some (kd,0,Bv l i,[],true,[],false,r.2.1,r.2.2.1,r.2.2.2.1,r.2.2.2.2) else none))
   ((lU l 32 (i+1) nt).bind λ_ j nt=>(WM l n 33 j nt).bind λL j nt=> .ok (.mk kd 0 (Bv l i) [] L,false) j nt):=by
 refine KN (R:=AP l) hl (by decide) ?_ (λ_ hlt=> ?_)
 ·simp only[dJ,aG,aQ];exact AP.jI ak
 ·simp only[dJ,aG];obtain⟨m2,rfl⟩:∃m2,m=m2+3:=⟨m - 3,ak⟩
  cases n with
  |zero=>rw[WM];trivial
  |succ n1=>
   refine AL.elim (R:=AP l) (aBf hl ((H n1 ak (m2+2) ak).its false false (i+1+1) nt ak ak) ak ak) (λ_=>trivial) (λfl ks j nt hn=> ?_) (λL fl j nt he=> ?_)
   ·simp only[dJ,aG];exact AP.jI hn
   ·simp only[dJ,aG,iY];exact AP.mk rfl rfl rfl rfl (iY _ _) (by simp only[tgt,Tn.kind,hkd];rfl)
theorem aKd(a b:Bool)(i:Nat)(nt:jf)(hi:i<=l.length)(hn:nt.length<=i):AP l (M.ou (m+1) (aF l) (i:Int) false (encS nt)) (ex l (n+1) 15 a b i nt):=by
 have h:=H n (zaQ _) m ak;rw[M.PZ];simp only[M.oh,M.vI,M.uF,dJ,aG,aQ,ex,dV,ah];cases h3:aP l i==3 with
 |true=>have hlt:=fE h3 (by decide);simp only[aG,KL hl hlt,ah,dJ];exact AP.mk rfl rfl rfl rfl rfl rfl
 |false=>
 cases h4:aP l i==4 with
 |true=>have hlt:=fE h4 (by decide);simp only[aG,aQ,KL hl hlt,ah,dJ];exact AP.mk rfl rfl rfl rfl rfl rfl
 |false=>
 cases h5:aP l i==5 with
 |true=>have hlt:=fE h5 (by decide);simp only[aG,aQ,KL hl hlt,ah,dJ];exact AP.mk rfl rfl rfl rfl rfl rfl
 |false=>
 cases h6:aP l i==6 with
 |true=>
  have hlt:=fE h6 (by decide);simp only[aG,aQ];obtain⟨m2,rfl⟩:∃m2,m=m2+2:=⟨m - 2,ak⟩
  exact AP.pass (aG4 hl (λi nt hi hn=>(H n (zaQ _) m2 ak).its false false i nt hi hn) hlt hn) (by intros;simp only[dJ,aG])
 |false=>
 cases h7:aP l i==7 with
 |true=>
  have hlt:=fE h7 (by decide);have e:aP l i=7:=by rwa [beq_iff_eq] at h7
  have h8:(aP l i==8)=false:=by rw[e];rfl
  simp only[aG,aQ,KL hl hlt,ah,dJ,h8,Bool.true_or,Bool.false_and];have:=aBg hl H hm 7 rfl i nt hlt hn;rw[e];exact this
 |false=>
 cases h8:aP l i==8 with
 |true=>
  have hlt:=fE h8 (by decide);have e:aP l i=8:=by rwa [beq_iff_eq] at h8
  simp only[aG,aQ,KL hl hlt,ah,dJ,Bool.or_true,Bool.true_and];have hcall:=aBg hl H hm 8 rfl i nt hlt hn;cases hx:Bv l i==[108,101,110,103,116,104] with
  |false=>simp only[aQ,Bool.false_and];rw[e];exact hcall
  |true=>
   simp only[aG,Bool.true_and,dV,ah,bne];cases h32:aP l (i+1)==32 with
   |false=>simp only[Bool.not_false,aG,dJ];exact AP.mk rfl rfl rfl rfl rfl rfl
   |true=>simp only[zaP,aQ,dJ,aG];rw[e];exact hcall
 |false=>
 cases h32:aP l i==32 with
 |true=>
  have hlt:=fE h32 (by decide);simp only[aG,aQ,ny hl hlt,Bool.or_self];refine AP.elim (R:=AP l) (h.e1 false false (i+1) nt ak ak) (λ_=>trivial) (λk op x y fl ks tg j nt hn=> ?_) (λx fl ks j Zo hk he=> ?_)
  ·simp only[aG,dJ,sU,ah];exact AP.jI hn
  ·have hs:=ql (IE ak ak ak) he;simp only[dJ,aG];refine KN (R:=AP l) hl (by decide) ?_ (λ_ hlt=> ?_)
   ·simp only[dJ,aG];exact AP.jI ak
   ·simp only[dJ,aG];exact AP.mk rfl rfl rfl rfl (La hk) rfl
 |false=>simp only[aQ,Bool.or_self,auM,ah,dJ,aG];exact AP.jI ak
end
variable {l:List Tk}
abbrev Q1:=ay×ay×Int×Bool×Bool×Bool×Int×Int×aC×aC×Bool×Int×Int×aC×aC×Bool×ay
abbrev Q2:=ay×Int×Bool×Bool×Bool×Int×Int×aC×aC×Bool×Int×Int×aC×aC×ay×Bool×ay
abbrev Q3:=ay×Int×Bool×Bool×Bool×Int×Int×aC×aC×Bool×Int×Int×aC×aC×Bool×ay×ay
def inF(u:Q1⊕Q2⊕Q3):Option TP:=jX u (λt=>bif aj t.2.2.2.2.2.2.2.2.2.2.2.2.2.2.2.2 then some (t.2.2.2.2.2.2.2.2.2.2.2.1,t.2.2.2.2.2.2.2.2.2.2.2.2.1,t.2.2.2.2.2.2.2.2.2.2.2.2.2.1,t.2.2.2.2.2.2.2.2.2.2.2.2.2.2.1,true,[],t.2.2.2.2.2.2.2.2.2.2.2.2.2.2.2.1,t.2.1,t.2.2.1,t.2.2.2.1,t.2.2.2.2.2.2.2.2.2.2.2.2.2.2.2.2) else none) λu=>jX u (λt=>bif aj t.2.2.2.2.2.2.2.2.2.2.2.2.2.2.2.2 then some (t.2.2.2.2.2.2.2.2.2.2.1,t.2.2.2.2.2.2.2.2.2.2.2.1,t.2.2.2.2.2.2.2.2.2.2.2.2.1,t.2.2.2.2.2.2.2.2.2.2.2.2.2.1,false,t.2.2.2.2.2.2.2.2.2.2.2.2.2.2.1,t.2.2.2.2.2.2.2.2.2.2.2.2.2.2.2.1,t.1,t.2.1,t.2.2.1,t.2.2.2.2.2.2.2.2.2.2.2.2.2.2.2.2) else none) λu=>letE u λt=>bif aj t.2.2.2.2.2.2.2.2.2.2.2.2.2.2.2.1 then some (t.2.2.2.2.2.2.2.2.2.2.1,t.2.2.2.2.2.2.2.2.2.2.2.1,t.2.2.2.2.2.2.2.2.2.2.2.2.1,t.2.2.2.2.2.2.2.2.2.2.2.2.2.1,true,t.2.2.2.2.2.2.2.2.2.2.2.2.2.2.2.2,t.2.2.2.2.2.2.2.2.2.2.2.2.2.2.1,t.1,t.2.1,t.2.2.1,t.2.2.2.2.2.2.2.2.2.2.2.2.2.2.2.1) else none
def q2(a b:Bool)(c:ay)(c1:Int)(c2:Bool)(k op:Int)(x y:aC)(ks:ay)(tg:Bool)(c3:ay):Q2:=(c,c1,c2,a,b,0,0,[],[],false,k,op,x,y,ks,tg,c3)
def q3(a b:Bool)(c:ay)(c1:Int)(c2:Bool)(k op:Int)(x y:aC)(ks:ay)(tg:Bool)(c3:ay):Q3:=(c,c1,c2,a,b,0,0,[],[],false,k,op,x,y,tg,c3,ks)
def aFJ(a b:Bool)(c1:Int)(c2:Bool)(k op:Int)(x y:aC)(ks:ay)(tg:Bool)(nt:jf):inF (.inr (.inl (q2 a b (aF l) c1 c2 k op x y ks tg (encS nt))))=some (k,op,x,y,false,ks,tg,aF l,c1,c2,encS nt):=by simp only[inF,jX,q2,dJ,aG]
def aFK(a b:Bool)(c1:Int)(c2:Bool)(k op:Int)(x y:aC)(ks:ay)(tg:Bool)(nt:jf):inF (.inr (.inr (q3 a b (aF l) c1 c2 k op x y ks tg (encS nt))))=some (k,op,x,y,true,ks,tg,aF l,c1,c2,encS nt):=by simp only[inF,jX,letE,q3,dJ,aG]
def in3(hl:l.length<=1048576){f:Int->ay->Int->Bool->ay->Option TL}{g:Bool->Bool->ay->Int->Bool->ay->Option TP}{a b:Bool}:∀(n:Nat) (x:Xp) (i:Nat) (nt:jf) (ks:ay),i<=l.length->nt.length<=i->aB ks=dG false x.1.kids->
  AP l ((M.iO f g (.inr (.inr (q3 a b (aF l) (i:Int) false x.1.kind x.1.op x.1.text x.1.other ks (tgt x) (encS nt))))).bind inF) (inP l n a x i nt)
 |0,_,_,_,_,_,_,_=>by rw[inP];trivial
 |n+1,x,i,nt,ks,hi,hn,hk=>by
  rw[inP,M.iO];cases hc:aP l i==24 with
  |false=>
   have hb:M.gI f g (.inr (.inr (q3 a b (aF l) (i:Int) false x.1.kind x.1.op x.1.text x.1.other ks (tgt x) (encS nt))))=some (.inr (.inr (.inr (q3 a b (aF l) (i:Int) false x.1.kind x.1.op x.1.text x.1.other ks (tgt x) (encS nt))))):=by simp only[M.gI,M.kR,q3,Bool.not_false,aG,aQ,dJ,dV,ah,hc]
   rw[aT hb,ah,aFK,Bool.false_and,aQ];exact AP.mk rfl rfl rfl rfl hk rfl
  |true=>
   cases a with
   |true=>
    have hb:M.gI f g (.inr (.inr (q3 true b (aF l) (i:Int) false x.1.kind x.1.op x.1.text x.1.other ks (tgt x) (encS nt))))=some (.inr (.inr (.inr (q3 true b (aF l) (i:Int) false x.1.kind x.1.op x.1.text x.1.other ks (tgt x) (encS nt))))):=by simp only[M.gI,M.kR,q3,Bool.not_false,zaP,aG,aQ,dJ,dV,ah,hc]
    rw[aT hb,ah,aFK];simp only[zaP,Bool.and_false,aQ];exact AP.mk rfl rfl rfl rfl hk rfl
   |false=>
    have hlt:=fE hc (by decide);have hb:M.gI f g (.inr (.inr (q3 false b (aF l) (i:Int) false x.1.kind x.1.op x.1.text x.1.other ks (tgt x) (encS nt))))=(M.aY (aF l) ((i+1:Nat):Int) false (encS nt)).bind λr=>some (.inl (.inr (.inr (q3 false b r.2.1 r.2.2.1 r.2.2.2.1 13 0 r.1 [] [[D.int .i64 x.1.kind,D.int .i64 x.1.op,D.str x.1.text,D.str x.1.other,D.sl true 5 ks]] false r.2.2.2.2)))):=by simp only[M.gI,M.kR,q3,Bool.not_false,aG,dJ,dV,ah,hc,ny hl hlt]
    simp only[Bool.not_false,Bool.and_self,aG];cases h6:aP l (i+1)==6 with
    |false=>
     have hnm:M.aY (aF l) ((i+1:Nat):Int) false (encS nt)=some ([],aF l,((i+1:Nat):Int),true,encS nt):=by simp only[M.aY,M.iL,dJ,aG,aQ,dV,ah,bne,h6,Bool.not_false]
     rw[hnm,ah] at hb;rw[cu hb,show fJ _ _=_ from aT rfl,ah,nameP,h6];exact⟨_,_,_,_,_,_,_,_,(show nt.length<=l.length by omega),aFK (l:=l) _ _ _ _ _ _ _ _ _ _ _⟩
    |true=>
     have h2:=fE h6 (by decide);have hnm:M.aY (aF l) ((i+1:Nat):Int) false (encS nt)=some (Bv l (i+1),aF l,((i+1+1:Nat):Int),false,encS nt):=by simp only[M.aY,M.iL,dJ,aG,aQ,dV,ah,bne,h6,zaP,KL hl h2]
     rw[hnm,ah] at hb;rw[cu hb,nameP,h6];exact in3 hl n (.mk 13 0 (Bv l (i+1)) [] [x.1],false) (i+1+1) nt _ ak ak (fz1 hk)
def in2(hl:l.length<=1048576){f:Int->ay->Int->Bool->ay->Option TL}{g:Bool->Bool->ay->Int->Bool->ay->Option TP}{a b:Bool}:∀(n:Nat) (x:Xp) (i:Nat) (nt:jf) (ks:ay),i<=l.length->nt.length<=i->aB ks=dG false x.1.kids->
  AP l ((M.iO f g (.inr (.inl (q2 a b (aF l) (i:Int) false x.1.kind x.1.op x.1.text x.1.other ks (tgt x) (encS nt))))).bind inF) (inP l n a x i nt)
 |0,_,_,_,_,_,_,_=>by rw[inP];trivial
 |n+1,x,i,nt,ks,hi,hn,hk=>by
  rw[inP,M.iO];cases hc:aP l i==24 with
  |false=>
   have hb:M.gI f g (.inr (.inl (q2 a b (aF l) (i:Int) false x.1.kind x.1.op x.1.text x.1.other ks (tgt x) (encS nt))))=some (.inr (.inr (.inl (q2 a b (aF l) (i:Int) false x.1.kind x.1.op x.1.text x.1.other ks (tgt x) (encS nt))))):=by simp only[M.gI,M.kR,q2,Bool.not_false,aG,aQ,dJ,dV,ah,hc]
   rw[aT hb,ah,aFJ,Bool.false_and,aQ];exact AP.mk rfl rfl rfl rfl hk rfl
  |true=>
   cases a with
   |true=>
    have hb:M.gI f g (.inr (.inl (q2 true b (aF l) (i:Int) false x.1.kind x.1.op x.1.text x.1.other ks (tgt x) (encS nt))))=some (.inr (.inr (.inl (q2 true b (aF l) (i:Int) false x.1.kind x.1.op x.1.text x.1.other ks (tgt x) (encS nt))))):=by simp only[M.gI,M.kR,q2,Bool.not_false,zaP,aG,aQ,dJ,dV,ah,hc]
    rw[aT hb,ah,aFJ];simp only[zaP,Bool.and_false,aQ];exact AP.mk rfl rfl rfl rfl hk rfl
   |false=>
    have hlt:=fE hc (by decide);have hb:M.gI f g (.inr (.inl (q2 false b (aF l) (i:Int) false x.1.kind x.1.op x.1.text x.1.other ks (tgt x) (encS nt))))=(M.aY (aF l) ((i+1:Nat):Int) false (encS nt)).bind λr=>some (.inl (.inr (.inr (q3 false b r.2.1 r.2.2.1 r.2.2.2.1 13 0 r.1 [] [[D.int .i64 x.1.kind,D.int .i64 x.1.op,D.str x.1.text,D.str x.1.other,D.sl false 5 ks]] false r.2.2.2.2)))):=by simp only[M.gI,M.kR,q2,q3,Bool.not_false,aG,dJ,dV,ah,hc,ny hl hlt]
    simp only[Bool.not_false,Bool.and_self,aG];cases h6:aP l (i+1)==6 with
    |false=>
     have hnm:M.aY (aF l) ((i+1:Nat):Int) false (encS nt)=some ([],aF l,((i+1:Nat):Int),true,encS nt):=by simp only[M.aY,M.iL,dJ,aG,aQ,dV,ah,bne,h6,Bool.not_false]
     rw[hnm,ah] at hb;rw[cu hb,show fJ _ _=_ from aT rfl,ah,nameP,h6];exact⟨_,_,_,_,_,_,_,_,(show nt.length<=l.length by omega),aFK (l:=l) _ _ _ _ _ _ _ _ _ _ _⟩
    |true=>
     have h2:=fE h6 (by decide);have hnm:M.aY (aF l) ((i+1:Nat):Int) false (encS nt)=some (Bv l (i+1),aF l,((i+1+1:Nat):Int),false,encS nt):=by simp only[M.aY,M.iL,dJ,aG,aQ,dV,ah,bne,h6,zaP,KL hl h2]
     rw[hnm,ah] at hb;rw[cu hb,nameP,h6];exact in3 hl n (.mk 13 0 (Bv l (i+1)) [] [x.1],false) (i+1+1) nt _ ak ak (fz1 hk)
def asw{α:Type}{x:PR α}:x.sat λ_ _ _=>True:=by cases x<;>trivial
def awt{a b:Bool}:∀(n:Nat) (L:List Tn) (i:Nat) (nt:jf),(WO l n a b L i nt).sat λL' _ _=>L.length<L'.length
 |0,_,_,_=>by rw[WO];trivial
 |n+1,L,i,nt=>by
  rw[WO,eF];refine bF asw λx j m _=> ?_
  rw[dY];refine⟨λ_=> ?_,λ_=> ?_⟩
  ·rw[dY];refine⟨λ_=>trivial,λ_=> ?_⟩;exact bF (awt n _ _ _) λL' _ _ h=>by rw[wM,GK] at h;omega
  ·show L.length<(L++[x.1]).length;rw[wM,GK];omega
def aBh{i:Nat}(h32:aP l i=32)(h:ahead (l.drop i) 0=true):(aP l (i+1)==33)=false:=by
 have hlt:i<l.length:=jH (by rw[h32];decide);obtain⟨t,ht⟩:∃t,l[i]? =some t:=⟨l[i],by simp[hlt]⟩
 have e1:t.kind=32:=by rw[aP,ht] at h32;exact h32
 rw[afU ht,ahead,e1] at h;have h':ahead (l.drop (i+1)) 1=true:=h;cases hk:l[i+1]? with
 |none=>rw[aP,hk];rfl
 |some u=>
  rw[afU hk,ahead] at h';rw[aP,hk];show(u.kind==33)=false;cases hu:u.kind==33 with
  |false=>rfl
  |true=>
   have e:u.kind=33:=by rwa [beq_iff_eq] at hu
   rw[e] at h';exact absurd (show false=true from h') Bool.false_ne_true
def aBi{n i:Nat}{nt:jf}(h:(aP l i==33)=false):(WM l n 33 i nt).sat λL _ _=>1<=L.length:=by
 cases n with
 |zero=>rw[WM];trivial
 |succ n=>
  rw[WM,h,aQ,eF];refine bF (awt n [] i nt) λL j m hL=> ?_
  rw[eF,Ba];exact λ_=>hL
section
variable {n m:Nat} (hl:l.length<=1048576) (H:∀n',n'<=n->∀m',4 * n'+30<=m'->RI l n' m') (hm:4 * (n+1)+30<=m+1)
include hl H hm
theorem aFL(a b:Bool)(i:Nat)(nt:jf)(hi:i<=l.length)(hn:nt.length<=i):
  AP l ((M.jP m a b (aF l) (i:Int) false (encS nt)).bind λr=>(M.iO (M.jm m) (M.jP m) (.inr (.inl (q2 a b r.2.2.2.2.2.2.2.1 r.2.2.2.2.2.2.2.2.1 r.2.2.2.2.2.2.2.2.2.1 r.1 r.2.1 r.2.2.1 r.2.2.2.1 (aB r.2.2.2.2.2.1) r.2.2.2.2.2.2.1 r.2.2.2.2.2.2.2.2.2.2)))).bind inF)
   ((ex l n 6 a b i nt).bind λx i nt=>inP l n a x i nt):=by
 have h:=H n (zaQ _) m ak;refine AP.elim (R:=AP l) (h.e6 a b i nt hi hn) (λ_=>trivial) (λk op x y fl ks tg j nt hn=> ?_) (λx fl ks j nt hk he=> ?_)
 ·rw[show M.iO _ _ _=_ from aT rfl,ah];exact⟨_,_,_,_,_,_,_,_,hn,aFJ (l:=l) _ _ _ _ _ _ _ _ _ _ _⟩
 ·have hs:=ql (IE ak ak hi) he;exact in2 hl n x j nt _ ak ak (La hk)
theorem aR5(a b:Bool)(i:Nat)(nt:jf)(hi:i<=l.length)(hn:nt.length<=i):AP l (M.sJ (m+1) a b (aF l) (i:Int) false (encS nt)) (ex l (n+1) 5 a b i nt):=by
 have hbare:=aFL hl H hm a b i nt hi hn;rw[M.XB];simp only[M.wF,M.Df,M.Dh,M.Di,M.uN,Bool.not_false,dJ,aG,ex,dV,ah];cases h32:aP l i==32 with
 |false=>simp only[aQ,Bool.false_and];exact hbare
 |true=>
  have hlt:=fE h32 (by decide);have e32:aP l i=32:=by rwa [beq_iff_eq] at h32
  simp only[aG,Bool.true_and];cases a with
  |true=>simp only[zaP,aQ,Bool.false_and];exact hbare
  |false=>
   simp only[Bool.not_false,aG,Bool.true_and,dJ,aFC hl i nt hi,ah];cases ha:ahead (l.drop i) 0 with
   |false=>simp only[aQ,dJ,aG];exact hbare
   |true=>
    simp only[aG,dJ,ny hl hlt];have hne:=aBh e32 ha;obtain⟨m2,rfl⟩:∃m2,m=m2+3:=⟨m - 3,ak⟩
    cases n with
    |zero=>rw[WM];trivial
    |succ n1=>
     refine AL.elim (R:=AP l) (aBf hl ((H n1 ak (m2+2) ak).its false false (i+1) nt ak ak) ak ak) (λ_=>trivial) (λfl ks j nt hn=> ?_) (λL fl j Zo he=> ?_)
     ·simp only[zaP,aQ];rw[show M.iO _ _ _=_ from aT rfl];simp only[ah,jX,dJ,aG];exact AP.jI hn
     ·have hs:=ql ((sats l (n1+1)).lst 33 (i+1) nt (by decide) ak) he;have hlong:=ql (aBi (n:=n1+1) (nt:=nt) hne) he;simp only[Bool.not_false,aG,dJ,dV,ah,bne,iY];rw[lU];cases h24:aP l j==24 with
      |false=>simp only[Bool.not_false,aG,dJ,auM,ah,aQ];exact AP.jI ak
      |true=>
       have hlt':=fE h24 (by decide);simp only[zaP,aQ,aG];have hb:M.gI (M.jm (m2+3)) (M.jP (m2+3)) (.inl (dG false L,false,aF l,(j:Int),false,false,b,0,0,[],[],false,0,0,[],[],false,encS Zo))=(M.aY (aF l) ((j+1:Nat):Int) false (encS Zo)).bind λr=>some (.inl (.inr (.inl (q2 false b r.2.1 r.2.2.1 r.2.2.2.1 13 0 r.1 [] (dG false L) false r.2.2.2.2)))):=by simp only[M.gI,M.kR,q2,Bool.not_false,aG,dJ,dV,ah,h24,ny hl hlt',dh];rw[bC hlong,aG]
       show AP l ((M.iO (M.jm (m2+3)) (M.jP (m2+3)) (.inl (dG false L,false,aF l,(j:Int),false,false,b,0,0,[],[],false,0,0,[],[],false,encS Zo))).bind inF) ((nameP l (j+1) Zo).bind λs i nt=>inP l (n1+1) false (Tn.mk 13 0 s [] L,false) i nt);rw[M.iO];cases h6:aP l (j+1)==6 with
       |false=>
        have hnm:M.aY (aF l) ((j+1:Nat):Int) false (encS Zo)=some ([],aF l,((j+1:Nat):Int),true,encS Zo):=by simp only[M.aY,M.iL,dJ,aG,aQ,dV,ah,bne,h6,Bool.not_false]
        rw[hnm,ah] at hb;rw[cu hb,show fJ _ _=_ from aT rfl,ah,nameP,h6];exact⟨_,_,_,_,_,_,_,_,(show Zo.length<=l.length by omega),aFJ (l:=l) _ _ _ _ _ _ _ _ _ _ _⟩
       |true=>
        have h2:=fE h6 (by decide);have hnm:M.aY (aF l) ((j+1:Nat):Int) false (encS Zo)=some (Bv l (j+1),aF l,((j+1+1:Nat):Int),false,encS Zo):=by simp only[M.aY,M.iL,dJ,aG,aQ,dV,ah,bne,h6,zaP,KL hl h2]
        rw[hnm,ah] at hb;rw[cu hb,nameP,h6];exact in2 hl (n1+1) (.mk 13 0 (Bv l (j+1)) [] L,false) (j+1+1) Zo _ ak ak (iY _ _)
end
def ri(hl:l.length<=1048576):∀N n,n<=N->∀m,4 * n+30<=m->RI l n m:=by
 intro N;induction N with
 |zero=>intro n hn m hm;obtain rfl:n=0:=ak;exact⟨λ_ _ _ _ _ _=>by rw[ex];trivial,λ_ _ _ _ _ _=>by rw[ex];trivial,λ_ _ _ _ _ _=>by rw[ex];trivial,λ_ _ _ _ _ _=>by rw[ex];trivial,λ_ _ _ _ _ _=>by rw[ex];trivial,λ_ _ _ _ _ _=>by rw[ex];trivial,λ_ _ _ _ _ _=>by rw[ex];trivial,λ_ _ _ _ _ _=>by rw[ex];trivial,λ_ _ _ _ _ _=>by rw[ex];trivial,λ_ _ _ _ _ _=>by rw[ex];trivial,λ_ _ _ _ _ _=>by rw[ex];trivial,λ_ _ _ _ _ _=>by rw[ex];trivial,λ_ _ _ _ _ _=>by rw[ex];trivial,λ_ _ _ _ _ _=>by rw[ex];trivial,λ_ _ _ _ _ _=>by rw[ex];trivial,λ_ _ _ _=>by rw[afK];trivial,λ_ _ _ _ _ _=>by rw[WO];trivial⟩
 |succ N ih=>
  intro n hn m hm;cases n with
  |zero=>exact ih 0 ak m hm
  |succ n=>
   cases m with
   |zero=>omega
   |succ m=>
    have H:∀n',n'<=n->∀m',4 * n'+30<=m'->RI l n' m':=λn' h=>ih n' ak
    exact⟨aRX hl H hm,aRY hl H hm,aRZ hl H hm,aR0 hl H hm,aR5 hl H hm,aR3 hl H hm,aR4 hl H hm,aR1 hl H hm,aR2 hl H hm,aJ6 hl H hm,aJ7 hl H hm,aJ8 hl H hm,aJ9 hl H hm,aKa hl H hm,aKd hl H hm,aKc hl H hm,aKb hl H hm⟩
def RI.of(hl:l.length<=1048576)(n:Nat){m:Nat}(hm:4 * n+30<=m):RI l n m:=ri hl n n (zaQ _) m hm
variable {l:List Tk}
def AT.Dw{β:Type}{o:Option TT}{j:Nat}(h:AT l o (.bad j)){f:TT->Option β}{R:Option β->Prop}
  (hb:∀k op x y fl ks nt,nt.length<=l.length->R (f (k,op,x,y,fl,ks,aF l,(j:Int),true,encS nt))):R (o.bind f):=by
 obtain⟨k,op,x,y,fl,ks,nt,h1,rfl⟩:=h;exact hb k op x y fl ks nt h1
def AT.jI{k op:Int}{x y:aC}{fl:Bool}{ks:ay}{j:Nat}{nt:jf}(hn:nt.length<=l.length):AT l (some (k,op,x,y,fl,ks,aF l,(j:Int),true,encS nt)) (.bad j):=⟨_,_,_,_,_,_,_,hn,rfl⟩
def AT.mk{x:Tn}{k op:Int}{s s':aC}{fl:Bool}{ks:ay}{j:Nat}{nt:jf}(h1:k=x.kind)(h2:op=x.op)(h3:s=x.text)(h4:s'=x.other)(h5:aB ks=dG false x.kids):
  AT l (some (k,op,s,s',fl,ks,aF l,(j:Int),false,encS nt)) (.ok x j nt):=by
 subst h1 h2 h3 h4;exact⟨_,_,h5,rfl⟩
def AP.lim{o o':Option TP}{p:PR Xp}(h:AP l o p)(hof:∀r,o=some r->o'=some r):AP l o' p:=by
 cases p with
 |ok x j nt=>obtain⟨fl,ks,h1,h2⟩:=h;exact⟨fl,ks,h1,hof _ h2⟩
 |bad j=>obtain⟨k,op,x,y,fl,ks,tg,nt,h1,h2⟩:=h;exact⟨k,op,x,y,fl,ks,tg,nt,h1,hof _ h2⟩
 |out=>trivial
def AT.lim{o o':Option TT}{p:PR Tn}(h:AT l o p)(hof:∀r,o=some r->o'=some r):AT l o' p:=by
 cases p with
 |ok x j nt=>obtain⟨fl,ks,h1,h2⟩:=h;exact⟨fl,ks,h1,hof _ h2⟩
 |bad j=>obtain⟨k,op,x,y,fl,ks,nt,h1,h2⟩:=h;exact⟨k,op,x,y,fl,ks,nt,h1,hof _ h2⟩
 |out=>trivial
def AL.lim{o o':Option TL}{p:PR (List Tn)}(h:AL l o p)(hof:∀r,o=some r->o'=some r):AL l o' p:=by
 cases p with
 |ok x j nt=>obtain⟨fl,h2⟩:=h;exact⟨fl,hof _ h2⟩
 |bad j=>obtain⟨fl,ks,nt,h1,h2⟩:=h;exact⟨fl,ks,nt,h1,hof _ h2⟩
 |out=>trivial
section
variable (hl:l.length<=1048576)
include hl
theorem ald(n:Nat)(a b:Bool){i:Nat}{nt:jf}(hi:i<=l.length)(hn:nt.length<=i):AP l (M.bD a b (aF l) (i:Int) false (encS nt)) (ex l n 1 a b i nt):=
 AP.lim ((RI.of hl n (zaQ _)).e1 a b i nt hi hn) λr h=>M.P6 h
theorem aR6(n:Nat)(a b:Bool){i:Nat}{nt:jf}(hi:i<=l.length)(hn:nt.length<=i):AP l (M.jG a b (aF l) (i:Int) false (encS nt)) (ex l n 9 a b i nt):=
 AP.lim ((RI.of hl n (zaQ _)).e9 a b i nt hi hn) λr h=>M.aem h
theorem aR7(n:Nat)(a b:Bool){i:Nat}{nt:jf}(hi:i<=l.length)(hn:nt.length<=i):AL l (M.iK a b (aF l) (i:Int) false (encS nt)) (WO l n a b [] i nt):=
 AL.lim ((RI.of hl n (zaQ _)).its a b i nt hi hn) λr h=>M.aaI h
theorem aKe(n:Nat){i:Nat}{nt:jf}(hi:i<=l.length)(hn:nt.length<=i):AL l (M.iV 35 (aF l) (i:Int) false (encS nt)) ((WO l n false false [] i nt).bind λL i nt=>(lU l 35 i nt).bind λ_ i nt=> .ok L i nt):=
 AL.lim (aBe hl ((RI.of hl n (zaQ _)).its false false i nt hi hn) hi hn) λr h=>M.abW h
end
def aBj(a b:Bool){i:Nat}{nt:jf}(hn:nt.length<=l.length):AP l (M.bD a b (aF l) (i:Int) true (encS nt)) (.bad i):=
 AP.lim (auO 0 hn) λr h=>M.P6 h
def aKf(b:Bool)(c:ay)(c1:Int)(c3:ay)(hf:aj c3=true):M.jZ 9 false false false false c c1 b c3=(M.jG false false c c1 b c3).bind λr=>bif aj r.2.2.2.2.2.2.2.2.2.2 then some (r.1,r.2.1,r.2.2.1,r.2.2.2.1,false,aB r.2.2.2.2.2.1,r.2.2.2.2.2.2.1,r.2.2.2.2.2.2.2.1,r.2.2.2.2.2.2.2.2.1,r.2.2.2.2.2.2.2.2.2.1,r.2.2.2.2.2.2.2.2.2.2) else none:=by simp only[M.jZ,M.Em,M.aO,aQ,hf,aG];rfl
def awu(hl:l.length<=1048576)(n:Nat){i:Nat}{nt:jf}(hi:i<=l.length)(hn:nt.length<=i):AP l (M.jZ 9 false false false false (aF l) (i:Int) false (encS nt)) (ex l n 9 false false i nt):=by rw[aKf _ _ _ _ (dJ nt)];exact AP.pass (aR6 hl n false false hi hn) (by intros;simp only[dJ,aG])
def auP(i:Nat)(nt:jf):M.iW (aF l) (i:Int) false (encS nt)=some (aF l,(i:Int), !(Wp (aP l i)),encS nt):=by simp only[M.iW,M.Gp,dJ,aG,dV,ah,apt];cases Wp (aP l i)<;>rfl
def aBk{k op:Int}{s s':aC}{fl:Bool}{ks:ay}{x:Tn}{j:Nat}{nt:jf}(h1:k=x.kind)(h2:op=x.op)(h3:s=x.text)(h4:s'=x.other)(h5:aB ks=dG false x.kids)(hn:nt.length<=l.length):
  AT l (some (k,op,s,s',fl,ks,aF l,(j:Int), !(Wp (aP l j)),encS nt)) (endP l x j nt):=by
 rw[endP];cases Wp (aP l j) with
 |true=>exact AT.mk h1 h2 h3 h4 h5
 |false=>exact AT.jI hn
def aBl{i:Nat}{nt:jf}(hn:nt.length<=l.length):AT l (M.gU (aF l) (i:Int) true (encS nt)) (.bad i):=by
 simp only[M.gU,M.sK,dJ,aG,sU,ah];refine AP.Dw (R:=λo=>AT l o (.bad i)) (aBj false false hn) λk op x y fl ks tg nt hn=> ?_
 simp only[dJ,aG,sU,ah];exact AT.jI hn
def auQ(hl:l.length<=1048576)(n:Nat){i:Nat}{nt:jf}(hi:i<=l.length)(hn:nt.length<=i):AT l (M.gU (aF l) (i:Int) false (encS nt)) (adD l n i nt):=by
 simp only[M.gU,M.sK,dJ,aG,adD];refine KN (R:=AT l) hl (by decide) ?_ (λ_ hlt=> ?_)
 ·simp only[dJ,aG];refine AP.Dw (R:=λo=>AT l o (.bad i)) (aBj false false ak) λk op x y fl ks tg nt hn=> ?_
  simp only[dJ,aG,sU,ah];exact AT.jI hn
 ·simp only[dJ,aG];refine AP.elim (R:=AT l) (ald hl n false false ak ak) (λ_=>trivial) (λk op x y fl ks tg j nt hn=> ?_) (λx fl ks j nt hk he=> ?_)
  ·simp only[aG,dJ,sU,ah];exact AT.jI hn
  ·have hs:=ql (IE ak ak ak) he;simp only[dJ,aG];refine KN (R:=AT l) hl (by decide) ?_ (λ_ hlt=> ?_)
   ·simp only[dJ,aG];exact AT.jI ak
   ·simp only[dJ,aG];exact AT.mk rfl rfl rfl rfl (La hk)
def Um(e:Int)(a b:Bool){i:Nat}{nt:jf}(hn:nt.length<=l.length):AT l (M.eu e a b (aF l) (i:Int) true (encS nt)) (.bad i):=by
 simp only[M.eu,M.zi,dJ,aG,dV,ah];cases aP l i==e with
 |true=>exact AT.jI hn
 |false=>
  simp only[aQ];refine AP.Dw (R:=λo=>AT l o (.bad i)) (aBj a b hn) λk op x y fl ks tg nt hn=> ?_
  simp only[dJ,aG];exact AT.jI hn
def apu(hl:l.length<=1048576)(n:Nat)(e:Int)(a:Bool){i:Nat}{nt:jf}(hi:i<=l.length)(hn:nt.length<=i):AT l (M.eu e a false (aF l) (i:Int) false (encS nt)) (Vj l n e a i nt):=by
 simp only[M.eu,M.zi,dJ,aG,dV,ah,Vj];cases aP l i==e with
 |true=>exact AT.mk rfl rfl rfl rfl rfl
 |false=>
  simp only[aQ];refine AP.elim (R:=AT l) (ald hl n a false hi hn) (λ_=>trivial) (λk op x y fl ks tg j nt hn=> ?_) (λx fl ks j nt hk he=> ?_)
  ·simp only[dJ,aG];exact AT.jI hn
  ·simp only[dJ,aG];exact AT.mk rfl rfl rfl rfl (La hk)
def awv{i:Nat}(h:aP l i=0\/aP l i=31)(nt:jf):∀lv,1<=lv->lv<=15->∀n a b,16 - lv<=n->ex l n lv a b i nt=.bad i:=by
 have hz:∀k:Int,k≠0->k≠31->(aP l i==k)=false:=λk h0 h1=>by rw[mX];rcases h with h|h<;>rw[h]<;>omega
 have hst:isStep (aP l i)=false:=by simp only[isStep,hz 51 (by decide) (by decide),hz 52 (by decide) (by decide),Bool.or_self]
 have:∀d lv,15 - lv=d->1<=lv->lv<=15->∀n a b,16 - lv<=n->ex l n lv a b i nt=.bad i:=by
  intro d;induction d with
  |zero=>
   intro lv hd h1 h2 n a b hn;obtain rfl:lv=15:=ak;obtain⟨n,rfl⟩:∃m,n=m+1:=⟨n - 1,ak⟩
   simp only[ex,hz 3 (by decide) (by decide),hz 4 (by decide) (by decide),hz 5 (by decide) (by decide),hz 6 (by decide) (by decide),hz 7 (by decide) (by decide),hz 8 (by decide) (by decide),hz 32 (by decide) (by decide),aQ,Bool.or_self]
  |succ d ih=>
   intro lv hd h1 h2 n a b hn;obtain⟨n,rfl⟩:∃m,n=m+1:=⟨n - 1,ak⟩
   have hr:=ih (lv+1) ak ak ak n a b ak;have hc:lv=1\/lv=2\/lv=3\/lv=4\/lv=5\/lv=6\/lv=7\/lv=8\/lv=9\/lv=10\/lv=11\/lv=12\/lv=13\/lv=14:=ak;rcases hc with rfl|rfl|rfl|rfl|rfl|rfl|rfl|rfl|rfl|rfl|rfl|rfl|rfl|rfl<;>simp only[ex]<;>
    simp only[hz 32 (by decide) (by decide),hz 55 (by decide) (by decide),hz 56 (by decide) (by decide),hz 61 (by decide) (by decide),hz 68 (by decide) (by decide),hst,Bool.false_and,Bool.or_self,aQ,hr]<;>rfl
 exact λlv=>this _ lv rfl
variable {l:List Tk}
section
variable (hl:l.length<=1048576) (n:Nat) {i:Nat} {nt:jf} (hi:i<l.length) (hn:nt.length<=i)
include hl hi hn
theorem aBm(k:Int):AT l (bif !(Wp (aP l (i+1))) then(M.bD false false (aF l) ((i+1:Nat):Int) false (encS nt)).bind λr=>bif aj r.2.2.2.2.2.2.2.2.2.2 then
   some (k,0,[],[],true,[[D.int .i64 r.1,D.int .i64 r.2.1,D.str r.2.2.1,D.str r.2.2.2.1,D.sl false 5 (aB r.2.2.2.2.2.1)]],r.2.2.2.2.2.2.2.1,r.2.2.2.2.2.2.2.2.1,r.2.2.2.2.2.2.2.2.2.1,r.2.2.2.2.2.2.2.2.2.2) else none
  else some (k,0,[],[],true,[],aF l,((i+1:Nat):Int),false,encS nt)) (anF l n k i nt):=by
 rw[anF];cases Wp (aP l (i+1)) with
 |true=>exact AT.mk rfl rfl rfl rfl rfl
 |false=>
  simp only[Bool.not_false,aG,aQ];refine AP.elim (R:=AT l) (ald hl n false false ak ak) (λ_=>trivial) (λk op x y fl ks tg j nt hn=> ?_) (λx fl ks j nt hk he=> ?_)
  ·simp only[dJ,aG];exact AT.jI hn
  ·simp only[dJ,aG];exact AT.mk rfl rfl rfl rfl (fz1 (La hk))
theorem aR8:AT l ((M.aY (aF l) ((i+1:Nat):Int) false (encS nt)).bind λafW=>
  bif !afW.2.2.2.1 then
   (bif aj afW.2.2.2.2 then
   ((M.aA afW.2.1 afW.2.2.1 afW.2.2.2.1 afW.2.2.2.2).bind λafk=>
    (bif afk.1==34 then
    (bif aj afk.2.2.2.2 then
     ((M.iV 35 afk.2.1 (i64.wrap (afk.2.2.1+1)) afk.2.2.2.1 afk.2.2.2.2).bind λaoQ=>
     (bif aj aoQ.2.2.2.2.2 then
      some (27,0,afW.1,[],false,aB aoQ.2.1,aoQ.2.2.1,aoQ.2.2.2.1,aoQ.2.2.2.2.1,aoQ.2.2.2.2.2) else none)) else none) else
    (bif aj afk.2.2.2.2 then
     some (27,0,afW.1,[],true,[],afk.2.1,afk.2.2.1,afk.2.2.2.1,afk.2.2.2.2) else none))) else none) else
   (bif aj afW.2.2.2.2 then
   some (27,0,afW.1,[],true,[],afW.2.1,afW.2.2.1,afW.2.2.2.1,afW.2.2.2.2) else none)) (aAx l n i nt):=by
 rw[aAx];refine aA8 (R:=AT l) hl ?_ (λ_ hlt=> ?_)
 ·simp only[zaP,aQ,dJ,aG];exact AT.jI ak
 ·simp only[Bool.not_false,aG,dJ,dV,ah];cases hc:aP l (i+1+1)==34 with
  |false=>exact AT.mk rfl rfl rfl rfl rfl
  |true=>
   have hlt':=fE hc (by decide);simp only[aG,ny hl hlt'];have e:(WO l n false false [] (i+1+1+1) nt).bind (λL i_1 nt=>(lU l 35 i_1 nt).bind λ_ i_2 nt=>PR.ok (Tn.mk 27 0 (Bv l (i+1)) [] L) i_2 nt)=
     ((WO l n false false [] (i+1+1+1) nt).bind λL i nt=>(lU l 35 i nt).bind λ_ i nt=> .ok L i nt).bind λL j nt=> .ok (Tn.mk 27 0 (Bv l (i+1)) [] L) j nt:=by
    cases WO l n false false [] (i+1+1+1) nt with
    |ok L j m=>simp only[PR.bind];cases lU l 35 j m<;>rfl
    |bad j=>rfl
    |out=>rfl
   rw[e];refine AL.elim (R:=AT l) (aKe hl n ak ak) (λ_=>trivial) (λfl ks j nt hn=> ?_) (λL fl j nt he=> ?_)
   ·simp only[dJ,aG];exact AT.jI hn
   ·simp only[dJ,aG,iY];exact AT.mk rfl rfl rfl rfl (iY _ _)
end
def aR9(hl:l.length<=1048576)(n:Nat){i:Nat}{nt:jf}(hi:i<=l.length)(hn:nt.length<=i)
  (hp:∀k,k=aP l i->(k=25\/k=26)->AT l (M.mZ k (aF l) ((i+1:Nat):Int) false (encS nt)) (aur l n i nt)):
  AT l (M.lG (aF l) (i:Int) false (encS nt)) (aus l n i nt):=by
 simp only[M.lG,M.xY,M.vK,M.vM,M.vN,M.vO,M.vP,M.vS,dJ,aG,dV,ah,aus];cases h25:aP l i==25 with
 |true=>
  have hlt:=fE h25 (by decide);have e:aP l i=25:=by rwa [beq_iff_eq] at h25
  simp only[aG,Bool.true_or,ny hl hlt];exact AT.pass (hp _ rfl (.inl e)) (by intros;simp only[dJ,aG])
 |false=>
 cases h26:aP l i==26 with
 |true=>
  have hlt:=fE h26 (by decide);have e:aP l i=26:=by rwa [beq_iff_eq] at h26
  simp only[aG,aQ,Bool.or_true,ny hl hlt];exact AT.pass (hp _ rfl (.inr e)) (by intros;simp only[dJ,aG])
 |false=>
 simp only[aQ,Bool.or_self];cases h20:aP l i==20 with
 |true=>
  have hlt:=fE h20 (by decide);have e:aP l i=20:=by rwa [beq_iff_eq] at h20
  have n1:(aP l i==21)=false:=by rw[e];rfl
  have n2:(aP l i==22)=false:=by rw[e];rfl
  simp only[n1,n2,aG,aQ,ny hl hlt];exact AT.mk rfl rfl rfl rfl rfl
 |false=>
 cases h18:aP l i==18 with
 |true=>
  have hlt:=fE h18 (by decide);have e:aP l i=18:=by rwa [beq_iff_eq] at h18
  have n1:(aP l i==21)=false:=by rw[e];rfl
  have n2:(aP l i==22)=false:=by rw[e];rfl
  simp only[n1,n2,aG,aQ,ny hl hlt];exact AT.mk rfl rfl rfl rfl rfl
 |false=>
 cases h19:aP l i==19 with
 |true=>
  have hlt:=fE h19 (by decide);have e:aP l i=19:=by rwa [beq_iff_eq] at h19
  have n1:(aP l i==21)=false:=by rw[e];rfl
  have n2:(aP l i==22)=false:=by rw[e];rfl
  simp only[n1,n2,aG,aQ,ny hl hlt];exact AT.mk rfl rfl rfl rfl rfl
 |false=>
 cases h21:aP l i==21 with
 |true=>have hlt:=fE h21 (by decide);simp only[aG,aQ,ny hl hlt,dV,ah,apt,dJ];exact aBm hl n hlt hn 23
 |false=>
 cases h22:aP l i==22 with
 |true=>have hlt:=fE h22 (by decide);simp only[aG,aQ,ny hl hlt,dV,ah,apt,dJ];exact aBm hl n hlt hn 24
 |false=>
 cases h23:aP l i==23 with
 |true=>have hlt:=fE h23 (by decide);simp only[aG,aQ,ny hl hlt];exact aR8 hl n hlt hn
 |false=>
  simp only[aQ];refine AP.elim (R:=AT l) (ald hl n false false hi hn) (λ_=>trivial) (λk op x y fl ks tg j nt hn=> ?_) (λx fl ks j nt hk he=> ?_)
  ·simp only[dJ,aG];exact AT.jI hn
  ·simp only[dJ,aG];exact AT.mk rfl rfl rfl rfl (fz1 (La hk))
variable {l:List Tk}
def ALt(l:List Tk)(o:Option TL):PR (List Tn)->Prop
 | .ok L j nt=>o=some (true,dG false L,aF l,(j:Int),false,encS nt)
 | .bad j=>∃ks nt,nt.length<=l.length/\o=some (true,ks,aF l,(j:Int),true,encS nt)
 | .out=>True
def AL.own{o:Option TL}{p:PR (List Tn)}(h:AL l o p)(ho:∀r,o=some r->r.1=true):ALt l o p:=by
 cases p with
 |ok L j nt=>obtain⟨fl,e⟩:=h;have:=ho _ e;simp only at this;subst this;exact e
 |bad j=>obtain⟨fl,ks,nt,h1,e⟩:=h;have:=ho _ e;simp only at this;subst this;exact⟨ks,nt,h1,e⟩
 |out=>trivial
def ALt.elim{β γ:Type}{R:Option β->PR γ->Prop}{o:Option TL}{p:PR (List Tn)}(h:ALt l o p){f:TL->Option β}{g:List Tn->Nat->jf->PR γ}(hout:∀o,R o .out)
  (hbad:∀ks j nt,nt.length<=l.length->R (f (true,ks,aF l,((j:Nat):Int),true,encS nt)) (.bad j))
  (hok:∀L j nt,p=.ok L j nt->R (f (true,dG false L,aF l,(j:Int),false,encS nt)) (g L j nt)):R (o.bind f) (p.bind g):=by
 cases p with
 |ok L j nt=>have h':o=_:=h;rw[h',ah];exact hok L j nt rfl
 |bad j=>obtain⟨ks,nt,h1,rfl⟩:=h;exact hbad ks j nt h1
 |out=>exact hout _
def aFM{b:Bool}{x r:TL}(hx:x.1=true)(h:(bif b then some x else none)=some r):r.1=true:=by
 cases b with
 |true=>cases h;exact hx
 |false=>cases h
def ax9{rec:Bool->Bool->ay->Int->Bool->ay->Option TP}{a b:Bool}{c:ay}{c1:Int}{c2:Bool}{c3:ay}{r:TL}(h:M.qp rec a b c c1 c2 c3 some=some r):r.1=true:=by
 simp only[M.qp] at h;cases hu:M.sD rec a b (c,c1,c2,[],c3) with
 |none=>rw[hu] at h;cases h
 |some u=>rw[hu,ah] at h;rcases u with t|t|t<;>simp only[jX,letE] at h<;>exact aFM rfl h
def aFN{a b:Bool}{c:ay}{c1:Int}{c2:Bool}{c3:ay}{r:TL}(h:M.iK a b c c1 c2 c3=some r):r.1=true:=by
 obtain⟨n,hn⟩:=UJ h;cases n with
 |zero=>cases hn
 |succ n=>exact ax9 hn
def aG5(hl:l.length<=1048576)(n:Nat)(a b:Bool){i:Nat}{nt:jf}(hi:i<=l.length)(hn:nt.length<=i):ALt l (M.iK a b (aF l) (i:Int) false (encS nt)) (WO l n a b [] i nt):=
 (aR7 hl n a b hi hn).own λr h=>aFN h
def cOw(rows:ay):aja 5 [D.sl true 5 rows] 0=some rows:=rfl
def ale{a b:Bool}:∀(n:Nat) (L:List Tn) (i:Nat) (nt:jf),L.length<6->(WO l n a b L i nt).sat λL' _ _=>L'.length<=6
 |0,_,_,_,_=>by rw[WO];trivial
 |n+1,L,i,nt,hL=>by
  rw[WO,eF];refine bF asw λx j m _=> ?_
  rw[dY];refine⟨λ_=> ?_,λ_=> ?_⟩
  ·rw[dY];refine⟨λ_=>trivial,λh=> ?_⟩;have:=Nat.ne_of_beq_eq_false h;exact ale n _ _ _ (by rw[wM,GK];omega)
  ·show(L++[x.1]).length<=6;rw[wM,GK];omega
section
variable (hl:l.length<=1048576) (n:Nat) (kd:Int)
include hl
theorem asx{L:List Tn}{j:Nat}{nt:jf}(hj:j<=l.length)(hn:nt.length<=j)(hL:L.length<=6):
  AT l (bif Py (aP l j) then(M.eU (aF l) (j:Int) false (encS nt)).bind λag9=>
       (bif aj ag9.2.2.2.2 then
       ((M.jZ 9 false false false false ag9.2.1 ag9.2.2.1 ag9.2.2.2.1 ag9.2.2.2.2).bind λNl=>
        (bif(((dG false L).length+[[D.int .i64 Nl.1,D.int .i64 Nl.2.1,D.str Nl.2.2.1,D.str Nl.2.2.2.1,D.sl false 5 (aB Nl.2.2.2.2.2.1)]].length) * 72).ble 140737488355328 then
        (bif((dG false L).length+[[D.int .i64 Nl.1,D.int .i64 Nl.2.1,D.str Nl.2.2.1,D.str Nl.2.2.2.1,D.sl false 5 (aB Nl.2.2.2.2.2.1)]].length).ble 140737488355328 then
         (bif aj Nl.2.2.2.2.2.2.2.2.2.2 then
         some (21,kd,[],ag9.1,true,dG false L++[[D.int .i64 Nl.1,D.int .i64 Nl.2.1,D.str Nl.2.2.1,D.str Nl.2.2.2.1,D.sl false 5 (aB Nl.2.2.2.2.2.1)]],Nl.2.2.2.2.2.2.2.1,Nl.2.2.2.2.2.2.2.2.1,Nl.2.2.2.2.2.2.2.2.2.1,Nl.2.2.2.2.2.2.2.2.2.2) else none) else none) else none)) else none)
    else some (21,kd,[],[],true,dG false L,aF l,(j:Int),false,encS nt))
   (bif Py (aP l j) then(ex l n 9 false false (j+1) nt).bind λx k nt=> .ok (.mk 21 kd [] (Bv l j) (L++[x.1])) k nt else .ok (.mk 21 kd [] [] L) j nt):=by
 cases hs:Py (aP l j) with
 |false=>exact AT.mk rfl rfl rfl rfl (iY _ _)
 |true=>
  have hlt:=jH (ala hs);simp only[aG,KL hl hlt,ah,dJ];refine AP.elim (R:=AT l) (awu hl n ak ak) (λ_=>trivial) (λk op x y fl ks tg j nt hn=> ?_) (λx fl ks j nt hk he=> ?_)
  ·simp only[dh,GK,dJ,aG];rw[bC ak,aG,bC ak,aG];exact AT.jI hn
  ·simp only[dh,GK,dJ,aG,afV hk];rw[bC ak,aG,bC ak,aG];exact AT.mk rfl rfl rfl rfl (iY _ _)
theorem asy{j:Nat}{nt:jf}(hj:j<=l.length)(hn:nt.length<=j):
  AT l (bif Py (aP l j) then(M.eU (aF l) (j:Int) false (encS nt)).bind λag9=>
       (bif aj ag9.2.2.2.2 then
       ((M.jZ 9 false false false false ag9.2.1 ag9.2.2.1 ag9.2.2.2.1 ag9.2.2.2.2).bind λNl=>
         (bif aj Nl.2.2.2.2.2.2.2.2.2.2 then
         some (21,kd,[],ag9.1,true,[[D.int .i64 Nl.1,D.int .i64 Nl.2.1,D.str Nl.2.2.1,D.str Nl.2.2.2.1,D.sl false 5 (aB Nl.2.2.2.2.2.1)]],Nl.2.2.2.2.2.2.2.1,Nl.2.2.2.2.2.2.2.2.1,Nl.2.2.2.2.2.2.2.2.2.1,Nl.2.2.2.2.2.2.2.2.2.2) else none)) else none)
    else some (21,kd,[],[],true,[],aF l,(j:Int),false,encS nt))
   (bif Py (aP l j) then(ex l n 9 false false (j+1) nt).bind λx k nt=> .ok (.mk 21 kd [] (Bv l j) ([]++[x.1])) k nt else .ok (.mk 21 kd [] [] []) j nt):=by
 cases hs:Py (aP l j) with
 |false=>exact AT.mk rfl rfl rfl rfl rfl
 |true=>
  have hlt:=jH (ala hs);simp only[aG,KL hl hlt,ah,dJ];refine AP.elim (R:=AT l) (awu hl n ak ak) (λ_=>trivial) (λk op x y fl ks tg j nt hn=> ?_) (λx fl ks j nt hk he=> ?_)
  ·simp only[dJ,aG];exact AT.jI hn
  ·simp only[dJ,aG];exact AT.mk rfl rfl rfl rfl (fz1 (La hk))
end
def aSa(hl:l.length<=1048576)(n:Nat){i:Nat}{nt:jf}(hi:i<l.length)(hn:nt.length<=i)(k:Int)(hk:k=aP l i)(h:k=25\/k=26):
  AT l (M.mZ k (aF l) ((i+1:Nat):Int) false (encS nt)) (aur l n i nt):=by
 rcases h with rfl|rfl
 ·have w0:i64.wrap ((25:Int) - 25)=0:=rfl;have w1:((0:Int)==1)=false:=rfl;have w2:((25:Int)==26)=false:=rfl;have w3:(25:Int) - 25=0:=rfl;simp only[M.mZ,M.zk,M.xW,M.xX,w0,w1,aQ,dJ,aG,dV,ah,apt,aur,<-hk,w2,w3,Bool.false_or];cases hE:Wp (aP l (i+1)) with
  |true=>simp only[zaP,Bool.not_false,aG,aQ,Bool.true_or,ai2,ah,dJ];exact asy hl n 0 ak ak
  |false=>
   simp only[Bool.not_false,aG,ai2,ah,Bool.false_or];cases hS:Py (aP l (i+1)) with
   |true=>simp only[zaP,Bool.not_false,aG,aQ,dJ];have:=asy hl n 0 (j:=i+1) (nt:=nt) ak ak;rw[hS,aG,aG] at this;show AT l _ (bif Py (aP l (i+1)) then _ else _);rw[hS,aG];exact this
   |false=>
    simp only[Bool.not_false,aG,dJ];refine ALt.elim (R:=AT l) (aG5 hl n false true ak ak) (λ_=>trivial) (λks j nt hn=> ?_) (λL j nt he=> ?_)
    ·simp only[cOw,ah,zaP,aQ,dJ,aG];exact AT.jI hn
    ·have hs:=ql (anJ ak) he;have hs6:=ql (ale n [] _ _ (by decide)) he;simp only[cOw,ah,Bool.not_false,aG,dJ,dV,ai2];exact asx hl n 0 ak ak hs6
 ·have w0:i64.wrap ((26:Int) - 25)=1:=rfl;have w3:(26:Int) - 25=1:=rfl;simp only[M.mZ,M.zk,M.xW,M.xX,w0,BEq.rfl,dJ,aG,aur,<-hk,w3,Bool.true_or];refine ALt.elim (R:=AT l) (aG5 hl n false true ak ak) (λ_=>trivial) (λks j nt hn=> ?_) (λL j nt he=> ?_)
  ·simp only[cOw,ah,zaP,aQ,dJ,aG];exact AT.jI hn
  ·have hs:=ql (anJ ak) he;have hs6:=ql (ale n [] _ _ (by decide)) he;simp only[cOw,ah,Bool.not_false,aG,dJ,dV,ai2];exact asx hl n 1 ak ak hs6
variable {l:List Tk}
structure RS(l:List Tk)(n m:Nat):Prop where
 st:∀i nt,i<=l.length->nt.length<=i->AT l (M.kK m (aF l) (i:Int) false (encS nt)) (stP l n i nt)
 blk:∀i nt,i<=l.length->nt.length<=i->AT l (M.mg m (aF l) (i:Int) false (encS nt)) (Vk l n i nt)
 body:∀i nt,i<=l.length->nt.length<=i->AT l (M.lI m (aF l) (i:Int) false (encS nt)) (E9 l n i nt)
def aeH:∀a b:ay,aB (a++b)=aB a++aB b
 |[],b=>rfl
 |r::a,b=>by rw[zca,aB,aB,aeH a b];rfl
def afX:∀(r:List Tk) (i:Nat) (nt:jf),∃u,(ab2 r i nt).2=nt++u
 |[],i,nt=>⟨[],by rw[ab2,List.append_nil]⟩
 |t::r,i,nt=>by
  rw[ab2];cases(t.kind==1||t.kind==37)<;>cases t.kind==2<;>simp only[aG,aQ]
  ·exact⟨[],(List.append_nil _).symm⟩
  ·obtain⟨u,h⟩:=afX r (i+1) (nt++[t.text]);exact⟨[t.text]++u,by rw[h,Qc]⟩
  ·exact afX r (i+1) nt
  ·exact afX r (i+1) nt
def Vr(m:Nat){i:Nat}{nt:jf}(hn:nt.length<=l.length):AT l (M.lI (m+1) (aF l) (i:Int) true (encS nt)) (.bad i):=by rw[M.Vd];simp only[yH,M.rW,dJ,aG,GH,ah];exact AT.jI hn
def aFO(hl:l.length<=1048576)(m:Nat){i:Nat}{nt:jf}(hn:nt.length<=l.length):AT l (M.mg (m+1) (aF l) (i:Int) true (encS nt)) (.bad i):=by rw[M.Ti];simp only[M.qA,dJ,aG,sU,ah,alb];rw[show M.pF _ _=_ from aT rfl];simp only[ah,jX,dJ,aG,sU,Bc (l:=l) _ _ nt ak,iY,dh,Bz];rw[bC ak,aG,bC ak,aG];exact AT.jI (Nat.zero_le _)
section
variable {n m:Nat} (hl:l.length<=1048576) (H:∀n',n'<=n->∀m',3 * n'+10<=m'->RS l n' m') (hm:3 * (n+1)+10<=m+1)
include hl H hm
theorem aFP(i:Nat)(nt:jf)(hi:i<=l.length)(hn:nt.length<=i):AT l (M.lI (m+1) (aF l) (i:Int) false (encS nt)) (E9 l (n+1) i nt):=by
 have h:=H n (zaQ _) m ak;have hf:=NR (l:=l) (nt:=nt) hi;rw[M.Vd];simp only[yH,M.rW,dJ,aG,Qy hl i nt hi hn,ah,aQ,dV,E9];generalize nl l i nt=q at hf|-;cases h30:aP l q.1==30 with
 |true=>simp only[aG];exact AT.pass (h.blk q.1 q.2 ak ak) (by intros;simp only[dJ,aG])
 |false=>
  simp only[aQ,Bc (l:=l) _ _ q.2 ak,ah,cOw,dJ,aG,dV];cases h37:aP l q.1==37 with
  |true=>have hlt:=fE h37 (by decide);simp only[aG,ny hl hlt];exact AT.mk rfl rfl rfl rfl (iY _ _)
  |false=>
   simp only[aQ];refine AT.elim (R:=AT l) (h.st q.1 [] ak (Nat.zero_le _)) (λ_=>trivial) (λk op x y fl ks j nt hn=> ?_) (λx fl ks j nt hk he=> ?_)
   ·simp only[dh,Bz,GK,dJ,aG];rw[bC ak,aG,bC ak,aG];exact AT.jI hn
   ·simp only[dh,Bz,GK,dJ,aG];rw[bC ak,aG,bC ak,aG];exact AT.mk rfl rfl rfl rfl (by rw[aeH,iY,fz1 (La hk)];exact(zJ _ _ _).symm)
def ifP(l:List Tk)(n i:Nat)(nt:jf):PR Tn:=(adD l n i nt).bind λx i nt=>(E9 l n i nt).bind λy i nt=>bif aP l (sep l i nt).1==14 then(E9 l n ((sep l i nt).1+1) (sep l i nt).2).bind λz i nt=> .ok (.mk 28 0 [] [] [x,y,z]) i nt else .ok (.mk 28 0 [] [] [x,y]) i nt
theorem aya(i:Nat)(nt:jf)(hi:i<=l.length)(hn:nt.length<=i):AT l (M.Dk m (aF l) (i:Int) false (encS nt)) (ifP l n i nt):=by
 obtain⟨m2,rfl⟩:∃m2,m=m2+1+1:=⟨m - 2,ak⟩
 have h:=H n (zaQ _) (m2+1) ak;rw[M.aa1,ifP];simp only[M.sO,dJ,aG];have hbad:∀{k op:Int} {x y:aC} {fl:Bool} {ks:ay} {k' op':Int} {x' y':aC} {ks':ay} {j:Nat} {nt:jf},nt.length<=l.length->
   AT l (some (28,0,[],[],true,[[D.int .i64 k,D.int .i64 op,D.str x,D.str y,D.sl false 5 ks],[D.int .i64 k',D.int .i64 op',D.str x',D.str y',D.sl false 5 ks']],aF l,(j:Int),true,encS nt)) (.bad j):=λhn=>AT.jI hn
 refine AT.elim (R:=AT l) (auQ hl n hi hn) (λ_=>trivial) (λk op x y fl ks j nt hn=> ?_) (λx fl ks j nt hk he=> ?_)
 ·simp only[dJ,aG];refine AT.Dw (R:=λo=>AT l o (.bad j)) (Vr m2 hn) λk op x y fl ks nt hn=> ?_
  simp only[dJ,aG,alb,ah,zaP,aQ];exact AT.jI hn
 ·have hs:=ql (abG hi) he;simp only[dJ,aG];refine AT.elim (R:=AT l) (h.body j nt ak ak) (λ_=>trivial) (λk op x y fl ks j nt hn=> ?_) (λy fl' kt j2 nt2 hk' he'=> ?_)
  ·simp only[dJ,aG,alb,ah,zaP,aQ];exact AT.jI hn
  ·have hs':=ql ((afT l n).body j nt ak) he';have hf:=aeG (l:=l) (i:=j2) (nt:=nt2) ak;obtain⟨u,hu⟩:=afX (l.drop j2) j2 nt2;have hu':(sep l j2 nt2).2=nt2++u:=hu;simp only[dJ,aG,anL hl j2 nt2 ak ak,ah,aQ,dV,bne];cases h14:aP l (sep l j2 nt2).1==14 with
   |false=>
    simp only[Bool.not_false,aG,aQ,lnS];have e1:(decide (0<=(nt2.length:Int)) && decide ((nt2.length:Int)<=((sep l j2 nt2).2.length:Int)))=true:=by rw[hu',wM,zdt ak,zdt ak];rfl
    have e2:List.take (nt2.length:Int).toNat (encS (sep l j2 nt2).2)=encS nt2:=by rw[hu',Zt,encS,encS,<-List.map_take];congr 1;simp
    rw[e1,aG,e2,dJ,aG];exact AT.mk rfl rfl rfl rfl (fz2 (La hk) (La hk'))
   |true=>
    have hlt:=fE h14 (by decide);simp only[zaP,aQ,aG,ny hl hlt];refine AT.elim (R:=AT l) (h.body _ _ ak ak) (λ_=>trivial) (λk op x y fl ks j nt hn=> ?_) (λz aZW ku j3 nt3 hk'' aZX=> ?_)
    ·simp only[dJ,aG];exact AT.jI hn
    ·simp only[dJ,aG];exact AT.mk rfl rfl rfl rfl (fz3 (La hk) (La hk') (La hk''))
def aKg(l:List Tk)(n i:Nat)(nt:jf):PR Tn:=(Vj l n 37 true i nt).bind λx i nt=>(lU l 37 i nt).bind λ_ i nt=>(Vj l n 37 false (nl l i nt).1 (nl l i nt).2).bind λy i nt=>(lU l 37 i nt).bind λ_ i nt=>(Vj l n 33 false (nl l i nt).1 (nl l i nt).2).bind λz i nt=>(lU l 33 i nt).bind λ_ i nt=>(E9 l n i nt).bind λw i nt=> .ok (.mk 31 0 [] [] [x,y,z,w]) i nt
omit hl H hm in
theorem fz4{x y z u:Tn}{kx ky kz ku:ay}(h:aB kx=dG false x.kids)(h':aB ky=dG false y.kids)(h'':aB kz=dG false z.kids)(h3:aB ku=dG false u.kids):
  aB [[.int .i64 x.kind,.int .i64 x.op,.str x.text,.str x.other,.sl false 5 kx],[.int .i64 y.kind,.int .i64 y.op,.str y.text,.str y.other,.sl false 5 ky],[.int .i64 z.kind,.int .i64 z.op,.str z.text,.str z.other,.sl false 5 kz],[.int .i64 u.kind,.int .i64 u.op,.str u.text,.str u.other,.sl false 5 ku]]=dG false [x,y,z,u]:=by
 rw[aB,fzT x _ kx h,aB,fzT y _ ky h',aB,fzT z _ kz h'',aB,fzT u _ ku h3];rfl
omit hl H hm in
theorem aSb(m2:Nat){j:Nat}{nt:jf}(hn:nt.length<=l.length):AT l ((M.eu 37 true false (aF l) (j:Int) true (encS nt)).bind λUZ=>
       (bif aj UZ.2.2.2.2.2.2.2.2.2 then
        ((M.aI 37 UZ.2.2.2.2.2.2.1 UZ.2.2.2.2.2.2.2.1 UZ.2.2.2.2.2.2.2.2.1 UZ.2.2.2.2.2.2.2.2.2).bind λagG=>
        (bif aj agG.2.2.2.2 then
         ((M.aK agG.2.1 agG.2.2.1 agG.2.2.2.1 agG.2.2.2.2).bind λagE=>
         (bif aj agE.2.2.2 then
          ((M.eu 37 false false agE.1 agE.2.1 agE.2.2.1 agE.2.2.2).bind λTY=>
          (bif aj TY.2.2.2.2.2.2.2.2.2 then
           ((M.aI 37 TY.2.2.2.2.2.2.1 TY.2.2.2.2.2.2.2.1 TY.2.2.2.2.2.2.2.2.1 TY.2.2.2.2.2.2.2.2.2).bind λalf=>
           (bif aj alf.2.2.2.2 then
            ((M.aK alf.2.1 alf.2.2.1 alf.2.2.2.1 alf.2.2.2.2).bind λalg=>
            (bif aj alg.2.2.2 then
             ((M.eu 33 false false alg.1 alg.2.1 alg.2.2.1 alg.2.2.2).bind λWQ=>
             (bif aj WQ.2.2.2.2.2.2.2.2.2 then
              ((M.aI 33 WQ.2.2.2.2.2.2.1 WQ.2.2.2.2.2.2.2.1 WQ.2.2.2.2.2.2.2.2.1 WQ.2.2.2.2.2.2.2.2.2).bind λagF=>
              (bif aj agF.2.2.2.2 then
               ((M.lI (m2+1) agF.2.1 agF.2.2.1 agF.2.2.2.1 agF.2.2.2.2).bind λUa=>
               (bif aj Ua.2.2.2.2.2.2.2.2.2 then
                some (31,0,[],[],true,[[D.int .i64 UZ.1,D.int .i64 UZ.2.1,D.str UZ.2.2.1,D.str UZ.2.2.2.1,D.sl false 5 (aB UZ.2.2.2.2.2.1)],[D.int .i64 TY.1,D.int .i64 TY.2.1,D.str TY.2.2.1,D.str TY.2.2.2.1,D.sl false 5 (aB TY.2.2.2.2.2.1)],[D.int .i64 WQ.1,D.int .i64 WQ.2.1,D.str WQ.2.2.1,D.str WQ.2.2.2.1,D.sl false 5 (aB WQ.2.2.2.2.2.1)],[D.int .i64 Ua.1,D.int .i64 Ua.2.1,D.str Ua.2.2.1,D.str Ua.2.2.2.1,D.sl false 5 (aB Ua.2.2.2.2.2.1)]],Ua.2.2.2.2.2.2.1,Ua.2.2.2.2.2.2.2.1,Ua.2.2.2.2.2.2.2.2.1,Ua.2.2.2.2.2.2.2.2.2) else none)) else none)) else none)) else none)) else none)) else none)) else none)) else none)) else none)) (.bad j):=by
 refine AT.Dw (R:=λo=>AT l o (.bad j)) (Um 37 true false hn) λk op x y fl ks nt hn=> ?_
 simp only[dJ,aG,sU,ah,GH];refine AT.Dw (R:=λo=>AT l o (.bad j)) (Um 37 false false hn) λk op x y fl ks nt hn=> ?_
 simp only[dJ,aG,sU,ah,GH];refine AT.Dw (R:=λo=>AT l o (.bad j)) (Um 33 false false hn) λk op x y fl ks nt hn=> ?_
 simp only[dJ,aG,sU,ah,GH];refine AT.Dw (R:=λo=>AT l o (.bad j)) (Vr m2 hn) λk op x y fl ks nt hn=> ?_
 simp only[dJ,aG];exact AT.jI hn
theorem aSc(m2:Nat)(hm2:m=m2+1+1)(i:Nat)(nt:jf)(hi:i<=l.length)(hn:nt.length<=i):AT l ((M.eu 37 true false (aF l) (i:Int) false (encS nt)).bind λUZ=>
       (bif aj UZ.2.2.2.2.2.2.2.2.2 then
        ((M.aI 37 UZ.2.2.2.2.2.2.1 UZ.2.2.2.2.2.2.2.1 UZ.2.2.2.2.2.2.2.2.1 UZ.2.2.2.2.2.2.2.2.2).bind λagG=>
        (bif aj agG.2.2.2.2 then
         ((M.aK agG.2.1 agG.2.2.1 agG.2.2.2.1 agG.2.2.2.2).bind λagE=>
         (bif aj agE.2.2.2 then
          ((M.eu 37 false false agE.1 agE.2.1 agE.2.2.1 agE.2.2.2).bind λTY=>
          (bif aj TY.2.2.2.2.2.2.2.2.2 then
           ((M.aI 37 TY.2.2.2.2.2.2.1 TY.2.2.2.2.2.2.2.1 TY.2.2.2.2.2.2.2.2.1 TY.2.2.2.2.2.2.2.2.2).bind λalf=>
           (bif aj alf.2.2.2.2 then
            ((M.aK alf.2.1 alf.2.2.1 alf.2.2.2.1 alf.2.2.2.2).bind λalg=>
            (bif aj alg.2.2.2 then
             ((M.eu 33 false false alg.1 alg.2.1 alg.2.2.1 alg.2.2.2).bind λWQ=>
             (bif aj WQ.2.2.2.2.2.2.2.2.2 then
              ((M.aI 33 WQ.2.2.2.2.2.2.1 WQ.2.2.2.2.2.2.2.1 WQ.2.2.2.2.2.2.2.2.1 WQ.2.2.2.2.2.2.2.2.2).bind λagF=>
              (bif aj agF.2.2.2.2 then
               ((M.lI (m2+1) agF.2.1 agF.2.2.1 agF.2.2.2.1 agF.2.2.2.2).bind λUa=>
               (bif aj Ua.2.2.2.2.2.2.2.2.2 then
                some (31,0,[],[],true,[[D.int .i64 UZ.1,D.int .i64 UZ.2.1,D.str UZ.2.2.1,D.str UZ.2.2.2.1,D.sl false 5 (aB UZ.2.2.2.2.2.1)],[D.int .i64 TY.1,D.int .i64 TY.2.1,D.str TY.2.2.1,D.str TY.2.2.2.1,D.sl false 5 (aB TY.2.2.2.2.2.1)],[D.int .i64 WQ.1,D.int .i64 WQ.2.1,D.str WQ.2.2.1,D.str WQ.2.2.2.1,D.sl false 5 (aB WQ.2.2.2.2.2.1)],[D.int .i64 Ua.1,D.int .i64 Ua.2.1,D.str Ua.2.2.1,D.str Ua.2.2.2.1,D.sl false 5 (aB Ua.2.2.2.2.2.1)]],Ua.2.2.2.2.2.2.1,Ua.2.2.2.2.2.2.2.1,Ua.2.2.2.2.2.2.2.2.1,Ua.2.2.2.2.2.2.2.2.2) else none)) else none)) else none)) else none)) else none)) else none)) else none)) else none)) else none)) (aKg l n i nt):=by
 have h:=H n (zaQ _) (m2+1) ak;rw[aKg];refine AT.elim (R:=AT l) (apu hl n 37 true hi hn) (λ_=>trivial) (λk op x y fl ks j nt hn=> ?_) (λx fx kx j nt hx ex=> ?_)
 ·simp only[dJ,aG,sU,ah,GH];refine AT.Dw (R:=λo=>AT l o (.bad j)) (Um 37 false false hn) λk op x y fl ks nt hn=> ?_
  simp only[dJ,aG,sU,ah,GH];refine AT.Dw (R:=λo=>AT l o (.bad j)) (Um 33 false false hn) λk op x y fl ks nt hn=> ?_
  simp only[dJ,aG,sU,ah,GH];refine AT.Dw (R:=λo=>AT l o (.bad j)) (Vr m2 hn) λk op x y fl ks nt hn=> ?_
  simp only[dJ,aG];exact AT.jI hn
 have s1:=ql (XR hi) ex;simp only[dJ,aG];refine KN (R:=AT l) hl (by decide) ?_ (λ_ hlt=> ?_)
 ·simp only[dJ,aG,GH,ah];have hn:nt.length<=l.length:=ak;refine AT.Dw (R:=λo=>AT l o (.bad j)) (Um 37 false false hn) λk op x y fl ks nt hn=> ?_
  simp only[dJ,aG,sU,ah,GH];refine AT.Dw (R:=λo=>AT l o (.bad j)) (Um 33 false false hn) λk op x y fl ks nt hn=> ?_
  simp only[dJ,aG,sU,ah,GH];refine AT.Dw (R:=λo=>AT l o (.bad j)) (Vr m2 hn) λk op x y fl ks nt hn=> ?_
  simp only[dJ,aG];exact AT.jI hn
 have g1:=NR (l:=l) (i:=j+1) (nt:=nt) ak;simp only[dJ,aG,Qy hl (j+1) nt ak ak,ah];refine AT.elim (R:=AT l) (apu hl n 37 false ak ak) (λ_=>trivial) (λk op x y fl ks j nt hn=> ?_) (λy fy ky j nt hy ey=> ?_)
 ·simp only[dJ,aG,sU,ah,GH];refine AT.Dw (R:=λo=>AT l o (.bad j)) (Um 33 false false hn) λk op x y fl ks nt hn=> ?_
  simp only[dJ,aG,sU,ah,GH];refine AT.Dw (R:=λo=>AT l o (.bad j)) (Vr m2 hn) λk op x y fl ks nt hn=> ?_
  simp only[dJ,aG];exact AT.jI hn
 have s2:=ql (XR ak) ey;simp only[dJ,aG];refine KN (R:=AT l) hl (by decide) ?_ (λ_ hlt=> ?_)
 ·simp only[dJ,aG,GH,ah];have hn:nt.length<=l.length:=ak;refine AT.Dw (R:=λo=>AT l o (.bad j)) (Um 33 false false hn) λk op x y fl ks nt hn=> ?_
  simp only[dJ,aG,sU,ah,GH];refine AT.Dw (R:=λo=>AT l o (.bad j)) (Vr m2 hn) λk op x y fl ks nt hn=> ?_
  simp only[dJ,aG];exact AT.jI hn
 have g2:=NR (l:=l) (i:=j+1) (nt:=nt) ak;simp only[dJ,aG,Qy hl (j+1) nt ak ak,ah];refine AT.elim (R:=AT l) (apu hl n 33 false ak ak) (λ_=>trivial) (λk op x y fl ks j nt hn=> ?_) (λz fz kz j nt hz ez=> ?_)
 ·simp only[dJ,aG,sU,ah];refine AT.Dw (R:=λo=>AT l o (.bad j)) (Vr m2 hn) λk op x y fl ks nt hn=> ?_
  simp only[dJ,aG];exact AT.jI hn
 have s3:=ql (XR ak) ez;simp only[dJ,aG];refine KN (R:=AT l) hl (by decide) ?_ (λ_ hlt=> ?_)
 ·simp only[dJ,aG];have hn:nt.length<=l.length:=ak;refine AT.Dw (R:=λo=>AT l o (.bad j)) (Vr m2 hn) λk op x y fl ks nt hn=> ?_
  simp only[dJ,aG];exact AT.jI hn
 simp only[dJ,aG];refine AT.elim (R:=AT l) (h.body _ _ ak ak) (λ_=>trivial) (λk op x y fl ks j nt hn=> ?_) (λw fw kw j nt hw ew=> ?_)
 ·simp only[dJ,aG];exact AT.jI hn
 ·simp only[dJ,aG];exact AT.mk rfl rfl rfl rfl (fz4 (La hx) (La hy) (La hz) (La hw))
def lpP(l:List Tk)(n i:Nat)(nt:jf):PR Tn:=(lU l 32 i nt).bind λ_ i nt=>(bif aP l i==6 && aP l (i+1)==24 then(nameP l (i+2) nt).bind λs j nt=>(lU l 33 j nt).bind λ_ j nt=>(E9 l n j nt).bind λy j nt=> .ok (.mk 32 0 (Bv l i) s [y]) j nt else aKg l n i nt)
theorem aFQ(i:Nat)(nt:jf)(hi:i<=l.length)(hn:nt.length<=i):AT l (M.Gq m (aF l) (i:Int) false (encS nt)) (lpP l n i nt):=by
 obtain⟨m2,hm2⟩:∃m2,m=m2+1+1:=⟨m - 2,ak⟩
 subst hm2;have h:=H n (zaQ _) (m2+1) ak;rw[M.aeo,lpP];simp only[M.wJ,M.uT,dJ,aG];refine KN (R:=AT l) hl (by decide) ?_ (λ_ hlt=> ?_)
 ·simp only[zaP,aQ,dJ,aG];exact aSb m2 ak
 ·simp only[Bool.not_false,aG,dJ,dV,ah,gZ];have aKh:=aSc hl H hm m2 rfl (i+1) nt ak ak;cases h6:aP l (i+1)==6 with
  |false=>simp only[aQ,Bool.false_and];exact aKh
  |true=>
   have aSd:=fE h6 (by decide);simp only[aG,ny hl aSd,Bool.true_and]
   by_cases hb:i+1+1<l.length
   ·obtain⟨t,ht⟩:∃t,l[i+1+1]? =some t:=⟨l[i+1+1],by simp[hb]⟩
    have e1:aP l (i+1+1)=t.kind:=by rw[aP,ht]
    rw[zdt ak,aG];simp only[dn,yh,ht,Nw,ah,cT0,e1];cases h24:t.kind==24 with
    |false=>simp only[aQ];exact aKh
    |true=>
     have n1:M.aY (aF l) ((i+1:Nat):Int) false (encS nt)=some (Bv l (i+1),aF l,((i+1+1:Nat):Int),false,encS nt):=by simp only[M.aY,M.iL,dJ,aG,aQ,dV,ah,bne,h6,zaP,KL hl aSd]
     have n2:M.aI 24 (aF l) ((i+1+1:Nat):Int) false (encS nt)=some (true,aF l,((i+1+1+1:Nat):Int),false,encS nt):=by simp only[M.aI,M.rM,dJ,aG,aQ,dV,ah,bne,e1,h24,zaP,ny hl hb]
     simp only[aG,n1,n2,ah,dJ];refine aA8 (R:=AT l) hl ?_ (λ_ hlt=> ?_)
     ·simp only[dJ,aG,sU,ah];refine AT.Dw (R:=λo=>AT l o (.bad (i+1+1+1))) (Vr m2 ak) λk op x y fl ks nt hn=> ?_
      simp only[dJ,aG];exact AT.jI hn
     ·simp only[dJ,aG];refine KN (R:=AT l) hl (by decide) ?_ (λ_ hlt=> ?_)
      ·simp only[dJ,aG];refine AT.Dw (R:=λo=>AT l o (.bad (i+1+1+1+1))) (Vr m2 ak) λk op x y fl ks nt hn=> ?_
       simp only[dJ,aG];exact AT.jI hn
      ·simp only[dJ,aG];refine AT.elim (R:=AT l) (h.body _ _ ak ak) (λ_=>trivial) (λk op x y fl ks j nt hn=> ?_) (λw fw kw j nt hw ew=> ?_)
       ·simp only[dJ,aG];exact AT.jI hn
       ·simp only[dJ,aG];exact AT.mk rfl rfl rfl rfl (fz1 (La hw))
   ·have e0:aP l (i+1+1)=0:=by rw[aP,List.getElem?_eq_none ak]
    rw[vG ak,aQ,e0];exact aKh
end
variable {l:List Tk}
abbrev B1:=ay×Int×Bool×Int×Int×aC×aC×Int×Int×aC×aC×ay
abbrev B2:=ay×Int×Bool×Int×Int×aC×aC×Int×Int×aC×aC×ay×ay
def b1(l:List Tk)(i:Nat)(b:Bool)(nt:jf):B1:=(aF l,(i:Int),b,0,0,[],[],33,0,[],[],encS nt)
def b2(l:List Tk)(i:Nat)(b:Bool)(nt:jf)(rows:ay):B2:=(aF l,(i:Int),b,0,0,[],[],33,0,[],[],encS nt,rows)
def auR(hl:l.length<=1048576){k:Int}(hk:k≠0){i:Nat}{nt:jf}(h:aP l i=k):M.aI k (aF l) (i:Int) false (encS nt)=some (true,aF l,((i+1:Nat):Int),false,encS nt):=by
 have hlt:i<l.length:=jH (by rw[h];exact hk);have e:(aP l i==k)=true:=by rw[h];exact BEq.rfl
 simp only[M.aI,M.rM,dJ,aG,aQ,dV,ah,bne,e,zaP,ny hl hlt]
def AB(l:List Tk)(o:Option (B1⊕B2)):PR (List Tn)->Prop
 | .ok L' j Zo=>∃L0 i0 nt0 u,o=some u/\(u=.inl (b1 l i0 false nt0)/\L0=[]\/u=.inr (b2 l i0 false nt0 (dG false L0)))/\L'=L0++Y8 nt0/\j=i0+1/\Zo=[]/\aP l i0=31/\nt0.length<=i0/\L0.length<=2 * l.length
 | .bad j=>∃u nt0,o=some u/\nt0.length<=l.length/\(u=.inl (b1 l j true nt0)\/∃rows:ay,rows.length<=4 * l.length+4/\u=.inr (b2 l j true nt0 rows))
 | .out=>True
def aBn(hl:l.length<=1048576){i:Nat}{nt:jf}(h:aP l i=0)(hi:i<=l.length)(hn:nt.length<=i):AT l (M.lG (aF l) (i:Int) false (encS nt)) (.bad i):=by
 have e:ex l 20 1 false false i nt=.bad i:=awv (.inl h) nt 1 (by decide) (by decide) 20 false false (by decide);have ha:=ald hl 20 false false hi hn;rw[e] at ha;have hz:∀k:Int,k≠0->(aP l i==k)=false:=λk h0=>by rw[mX,h];exact λe=>h0 e.symm
 simp only[M.lG,M.xY,M.vK,M.vM,M.vN,M.vO,M.vP,M.vS,dJ,aG,dV,ah,hz 25 (by decide),hz 26 (by decide),hz 20 (by decide),hz 18 (by decide),hz 19 (by decide),hz 21 (by decide),hz 22 (by decide),hz 23 (by decide),aQ];refine AP.Dw (R:=λo=>AT l o (.bad i)) ha λk op x y fl ks tg nt hn=> ?_
 simp only[dJ,aG];exact AT.jI hn
def aFR(hl:l.length<=1048576)(m:Nat){i:Nat}{nt:jf}(h:aP l i=0)(hi:i<=l.length)(hn:nt.length<=i):AT l (M.kK (m+1) (aF l) (i:Int) false (encS nt)) (.bad i):=by
 have hz:∀k:Int,k≠0->(aP l i==k)=false:=λk h0=>by rw[mX,h];exact λe=>h0 e.symm
 rw[M.NH];simp only[M.mQ,M.lH,dJ,aG,dV,ah,hz 30 (by decide),hz 13 (by decide),hz 15 (by decide),hz 17 (by decide),hz 16 (by decide),aQ];refine AT.Dw (R:=λo=>AT l o (.bad i)) (aBn hl h hi hn) λk op x y fl ks nt hn=> ?_
 simp only[zaP,aQ,dJ,aG];exact AT.jI hn
def asz(hl:l.length<=1048576){f:ay->Int->Bool->ay->Option TT}(hf0:∀i,aP l i=0->i<=l.length->AT l (f (aF l) (i:Int) false (encS [])) (.bad i)):
  ∀n,(∀n',n'<n->∀i nt,i<=l.length->nt.length<=i->AT l (f (aF l) (i:Int) false (encS nt)) (stP l n' i nt))->
   ∀(L:List Tn) (i:Nat) (nt:jf) (s:B1⊕B2),(s=.inl (b1 l (sep l i nt).1 false (sep l i nt).2)/\L=[]\/s=.inr (b2 l (sep l i nt).1 false (sep l i nt).2 (dG false L)))->i<=l.length->nt.length<=i->L.length+nt.length<=2 * i->
   AB l (M.pF f s) (aeD l n L i nt)
 |0,_,_,_,_,_,_,_,_,_=>by rw[aeD];trivial
 |n+1,hst,L,i,nt,s,hs,hi,hn,hL=>by
  have hq:=aeG (l:=l) (i:=i) (nt:=nt) hi;simp only[aeD];generalize hqe:sep l i nt=q at hs hq|-;rw[M.pF];cases h31:aP l q.1==31 with
  |true=>
   have hlt:=fE h31 (by decide);have e31:aP l q.1=31:=by rwa [beq_iff_eq] at h31
   refine⟨L,q.1,q.2,s, ?_,hs,rfl,rfl,rfl,e31,ak,ak⟩;rcases hs with⟨rfl,rfl⟩|rfl<;>refine aT ?_<;>
    simp only[yH,M.qg,M.pY,b1,b2,Bool.not_false,aG,dJ,dV,ah,bne,h31,zaP,aQ]
  |false=>
   have hb:M.qg f s=(f (aF l) (q.1:Int) false (encS [])).bind λr=>
     bif(((dG false (L++Y8 q.2)).length+[[D.int .i64 r.1,D.int .i64 r.2.1,D.str r.2.2.1,D.str r.2.2.2.1,D.sl false 5 (aB r.2.2.2.2.2.1)]].length) * 72).ble 140737488355328 then
      (bif((dG false (L++Y8 q.2)).length+[[D.int .i64 r.1,D.int .i64 r.2.1,D.str r.2.2.1,D.str r.2.2.2.1,D.sl false 5 (aB r.2.2.2.2.2.1)]].length).ble 140737488355328 then
      (bif aj r.2.2.2.2.2.2.2.2.2 then
       ((M.bG r.2.2.2.2.2.2.1 r.2.2.2.2.2.2.2.1 r.2.2.2.2.2.2.2.2.1 r.2.2.2.2.2.2.2.2.2).bind λr'=>
       (some (.inl (.inr ((r'.1,r'.2.1,r'.2.2.1,0,0,[],[],33,0,[],[],r'.2.2.2,dG false (L++Y8 q.2)++[[D.int .i64 r.1,D.int .i64 r.2.1,D.str r.2.2.1,D.str r.2.2.2.1,D.sl false 5 (aB r.2.2.2.2.2.1)]]):B2))))) else none) else none) else none:=by
    have hc:=Bc (l:=l) (q.1:Int) false q.2 ak;have hlen:(L.length+q.2.length) * 72<=140737488355328:=ak;rcases hs with⟨rfl,rfl⟩|rfl
    ·simp only[yH,M.qg,M.pY,b1,Bool.not_false,aG,dJ,dV,ah,bne,h31,hc,iY,List.nil_append];rw[show(dG false (Y8 q.2)).length=q.2.length by rw[dh,Bz],bC ak,aG,bC ak,aG]
    ·simp only[yH,M.qg,M.pY,b2,Bool.not_false,aG,dJ,dV,ah,bne,h31,hc,iY,<-zJ];rw[show(dG false L).length+(dG false (Y8 q.2)).length=L.length+q.2.length by rw[dh,dh,Bz],bC ak,aG,bC ak,aG]
   rw[aQ];have hbad:∀{j:Nat},AT l (f (aF l) (q.1:Int) false (encS [])) (.bad j)->AB l (fJ (M.qg f) s) (.bad j):=by intro j hj;obtain⟨k,op,x,y,fl,ks,Zo,h1,h2⟩:=hj;rw[h2,ah] at hb;simp only[dh,wM,Bz,GK,dJ,aG,alb,ah] at hb;rw[bC ak,aG,bC ak,aG] at hb;rw[cu hb];refine⟨_,Zo,aT rfl,h1,.inr ⟨_, ?_,rfl⟩⟩;simp only[wM,dh,Bz,GK];omega
   cases h0:aP l q.1==0 with
   |true=>
    have e0:aP l q.1=0:=by rwa [beq_iff_eq] at h0
    exact hbad (hf0 q.1 e0 ak)
   |false=>
    rw[aQ];have hr:=hst n (Nat.lt_succ_self n) q.1 [] ak (Nat.zero_le _);have asA:=(afT l n).st q.1 [] ak;generalize stP l n q.1 []=p at hr asA|-;cases p with
    |out=>trivial
    |bad j=>exact hbad hr
    |ok x j m'=>obtain⟨fl,kt,h1,h2⟩:=hr;have aBo:FS l q.1 ([]:jf).length x.size j m'.length:=asA;rw[SS] at aBo;rw[h2,ah] at hb;simp only[afV h1,dh,wM,Bz,GK,dJ,aG,anL hl j m' ak ak,ah] at hb;rw[bC ak,aG,bC ak,aG] at hb;rw[cu hb];refine asz hl hf0 n (λn' h=>hst n' ak) ((L++Y8 q.2)++[x]) j m' _ (.inr rfl) ak ak ?_;simp only[wM,Bz,GK];omega
section
variable {n m:Nat} (hl:l.length<=1048576) (H:∀n',n'<=n->∀m',3 * n'+10<=m'->RS l n' m') (hm:3 * (n+1)+10<=m+1)
include hl H hm
theorem aKi(i:Nat)(nt:jf)(hi:i<=l.length)(hn:nt.length<=i):AT l (M.mg (m+1) (aF l) (i:Int) false (encS nt)) (Vk l (n+1) i nt):=by
 obtain⟨m2,rfl⟩:∃m2,m=m2+1:=⟨m - 1,ak⟩
 rw[M.Ti,Vk];simp only[M.qA,dJ,aG];refine KN (R:=AT l) hl (by decide) ?_ (λ_ hlt=> ?_)
 ·simp only[dJ,aG,alb,ah];rw[show M.pF _ _=_ from aT rfl];simp only[ah,jX,dJ,aG,sU,Bc (l:=l) _ _ nt ak,iY,dh,Bz];rw[bC ak,aG,bC ak,aG];exact AT.jI (Nat.zero_le _)
 ·simp only[dJ,aG,anL hl (i+1) nt ak ak,ah];have hloop:=asz hl (f:=M.kK (m2+1)) (λi h0 hi=>aFR hl m2 h0 hi (Nat.zero_le _)) n (λn' h i nt hi hn=>(H n' ak (m2+1) ak).st i nt hi hn) [] (i+1) nt (.inl (b1 l (sep l (i+1) nt).1 false (sep l (i+1) nt).2)) (.inl ⟨rfl,rfl⟩) ak ak (by rw[SS];omega);generalize aeD l n [] (i+1) nt=p at hloop|-;rw[b1] at hloop;cases p with
  |out=>trivial
  |bad j=>
   obtain⟨u,nt0,h1,h2,h3⟩:=hloop;rw[h1,ah];rcases h3 with rfl|⟨rows,h4,rfl⟩
   ·simp only[b1,jX,dJ,aG,sU,ah,Bc (l:=l) _ _ nt0 ak,iY,dh,Bz];rw[bC ak,aG,bC ak,aG];exact AT.jI (Nat.zero_le _)
   ·simp only[b2,jX,letE,dJ,aG,sU,ah,Bc (l:=l) _ _ nt0 ak,iY,dh,Bz];rw[bC ak,aG,bC ak,aG];exact AT.jI (Nat.zero_le _)
  |ok L' j Zo=>
   obtain⟨L0,i0,nt0,u,h1,h2,rfl,rfl,rfl,h31,h4,h5⟩:=hloop;have hlt0:i0<l.length:=jH (by rw[h31];decide);rw[h1,ah];rcases h2 with⟨rfl,rfl⟩|rfl
   ·simp only[b1,jX,dJ,aG,auR hl (by decide) h31,ah,Bc (l:=l) _ _ nt0 ak,iY,dh,Bz];rw[bC ak,aG,bC ak,aG];exact AT.mk rfl rfl rfl rfl (iY _ _)
   ·simp only[b2,jX,letE,dJ,aG,auR hl (by decide) h31,ah,Bc (l:=l) _ _ nt0 ak,iY,dh,Bz,<-zJ];rw[bC ak,aG,bC ak,aG];exact AT.mk rfl rfl rfl rfl (iY _ _)
theorem aSe(i:Nat)(nt:jf)(hi:i<=l.length)(hn:nt.length<=i):AT l (M.kK (m+1) (aF l) (i:Int) false (encS nt)) (stP l (n+1) i nt):=by
 have h:=H n (zaQ _) m ak;have hbr:=aya hl H hm;have hlp:=aFQ hl H hm;obtain⟨m2,rfl⟩:∃m2,m=m2+1:=⟨m - 1,ak⟩
 rw[M.NH];simp only[M.mQ,M.lH,dJ,aG,dV,ah,stP];cases h30:aP l i==30 with
 |true=>simp only[aG];exact AT.pass (h.blk i nt hi hn) (by intros;simp only[dJ,aG])
 |false=>
 cases h13:aP l i==13 with
 |true=>have hlt:=fE h13 (by decide);simp only[aG,aQ,ny hl hlt];exact AT.pass (hbr (i+1) nt ak ak) (by intros;simp only[dJ,aG])
 |false=>
 cases h15:aP l i==15 with
 |true=>
  have hlt:=fE h15 (by decide);simp only[aG,aQ,ny hl hlt];refine AT.elim (R:=AT l) (auQ hl n ak ak) (λ_=>trivial) (λk op x y fl ks j nt hn=> ?_) (λx fx kx j nt hx ex=> ?_)
  ·simp only[dJ,aG];refine AT.Dw (R:=λo=>AT l o (.bad j)) (Vr m2 hn) λk op x y fl ks nt hn=> ?_
   simp only[dJ,aG];exact AT.jI hn
  ·have s1:=ql (abG ak) ex;simp only[dJ,aG];refine AT.elim (R:=AT l) (h.body j nt ak ak) (λ_=>trivial) (λk op x y fl ks j nt hn=> ?_) (λy fy ky j nt hy ey=> ?_)
   ·simp only[dJ,aG];exact AT.jI hn
   ·simp only[dJ,aG];exact AT.mk rfl rfl rfl rfl (fz2 (La hx) (La hy))
 |false=>
 cases h17:aP l i==17 with
 |true=>
  have hlt:=fE h17 (by decide);simp only[aG,aQ,ny hl hlt];refine AT.elim (R:=AT l) (h.body (i+1) nt ak ak) (λ_=>trivial) (λk op x y fl ks j nt hn=> ?_) (λx fx kx j nt hx ex=> ?_)
  ·simp only[dJ,aG,alb,sU,ah];refine AT.Dw (R:=λo=>AT l o (.bad j)) (aBl hn) λk op x y fl ks nt hn=> ?_
   simp only[zaP,aQ,dJ,aG];exact AT.jI hn
  ·have s1:=ql ((afT l n).body (i+1) _ ak) ex;have hf:=aeG (l:=l) (i:=j) (nt:=nt) ak;simp only[dJ,aG,anL hl j nt ak ak,ah];refine KN (R:=AT l) hl (by decide) ?_ (λ_ hlt=> ?_)
   ·simp only[dJ,aG];refine AT.Dw (R:=λo=>AT l o (.bad (sep l j nt).1)) (aBl ak) λk op x y fl ks nt hn=> ?_
    simp only[zaP,aQ,dJ,aG];exact AT.jI hn
   ·simp only[dJ,aG];refine AT.elim (R:=AT l) (auQ hl n ak ak) (λ_=>trivial) (λk op x y fl ks j nt hn=> ?_) (λy fy ky j2 nt2 hy ey=> ?_)
    ·simp only[zaP,aQ,dJ,aG];exact AT.jI hn
    ·have s2:=ql (abG ak) ey;simp only[Bool.not_false,aG,dJ,auP,ah];exact aBk rfl rfl rfl rfl (fz2 (La hx) (La hy)) ak
 |false=>
 cases h16:aP l i==16 with
 |true=>have hlt:=fE h16 (by decide);simp only[aG,aQ,ny hl hlt];exact AT.pass (hlp (i+1) nt ak ak) (by intros;simp only[dJ,aG])
 |false=>
  simp only[aQ];have hs:=aR9 hl n hi hn λk hk h=>aSa hl n (jH (by rw[<-hk];rcases h with rfl|rfl<;>decide)) hn k hk h
  refine AT.elim (R:=AT l) hs (λ_=>trivial) (λk op x y fl ks j nt hn=> ?_) (λx fx kx j nt hx ex=> ?_)
  ·simp only[zaP,aQ,dJ,aG];exact AT.jI hn
  ·have s1:=ql (aA6 hi) ex;simp only[Bool.not_false,aG,dJ,auP,ah];exact aBk rfl rfl rfl rfl (La hx) ak
end
def rs(hl:l.length<=1048576):∀N n,n<=N->∀m,3 * n+10<=m->RS l n m:=by
 intro N;induction N with
 |zero=>intro n hn m hm;obtain rfl:n=0:=ak;exact⟨λ_ _ _ _=>by rw[stP];trivial,λ_ _ _ _=>by rw[Vk];trivial,λ_ _ _ _=>by rw[E9];trivial⟩
 |succ N ih=>
  intro n hn m hm;cases n with
  |zero=>exact ih 0 ak m hm
  |succ n=>
   cases m with
   |zero=>omega
   |succ m=>
    have H:∀n',n'<=n->∀m',3 * n'+10<=m'->RS l n' m':=λn' h=>ih n' ak
    exact⟨aSe hl H hm,aKi hl H hm,aFP hl H hm⟩
def RS.of(hl:l.length<=1048576)(n:Nat){m:Nat}(hm:3 * n+10<=m):RS l n m:=rs hl n n (zaQ _) m hm
def asB(hl:l.length<=1048576)(n:Nat){i:Nat}{nt:jf}(hi:i<=l.length)(hn:nt.length<=i):AT l (M.bQ (aF l) (i:Int) false (encS nt)) (Vk l n i nt):=
 AT.lim ((RS.of hl n (zaQ _)).blk i nt hi hn) λr h=>M.Sj h
def aww(hl:l.length<=1048576){i:Nat}{nt:jf}(hn:nt.length<=l.length):AT l (M.bQ (aF l) (i:Int) true (encS nt)) (.bad i):=
 AT.lim (aFO hl 0 hn) λr h=>M.Sj h
variable {l:List Tk}
abbrev G2:=ay×Int×Bool×Int×Int×aC×aC×Int×Int×aC×aC×ay×ay
abbrev G3:=ay×Int×Int×Int×aC×aC×Int×Int×aC×aC×ay×ay
abbrev GO:=G2⊕B1⊕G3⊕G2
def g2(l:List Tk)(x:aC)(i:Nat)(b:Bool)(nt:jf)(rows:ay):G2:=(aF l,(i:Int),b,0,0,[],[],44,0,x,[],encS nt,rows)
def g3(l:List Tk)(x:aC)(i:Nat)(nt:jf)(rows:ay):G3:=(aF l,(i:Int),0,0,[],[],44,0,x,[],encS nt,rows)
def AQ(l:List Tk)(x:aC)(o:Option GO):PR (List Tn)->Prop
 | .ok L' j Zo=>o=some (.inl (g2 l x j false Zo (dG true L')))
 | .bad j=>∃Zo rows,Zo.length<=l.length/\rows.length<=8/\(o=some (.inl (g2 l x j true Zo rows))\/o=some (.inr (.inr (.inl (g3 l x j Zo rows)))))
 | .out=>True
def alh(hl:l.length<=1048576){i:Nat}{nt:jf}(h:(aP l i==6)=true):M.aY (aF l) (i:Int) false (encS nt)=some (Bv l i,aF l,((i+1:Nat):Int),false,encS nt):=by simp only[M.aY,M.iL,dJ,aG,aQ,dV,ah,bne,h,zaP,KL hl (fE h (by decide))]
def aBp{i:Nat}{nt:jf}(h:(aP l i==6)=false):M.aY (aF l) (i:Int) false (encS nt)=some ([],aF l,(i:Int),true,encS nt):=by simp only[M.aY,M.iL,dJ,aG,aQ,dV,ah,bne,h,Bool.not_false]
def afY(L:List Tn)(s:aC):dG true L++[[D.int .i64 1,D.int .i64 0,D.str s,D.str [],D.sl true 5 []]]=dG true (L++[.mk 1 0 s [] []]):=by rw[zJ];rfl
def asC(hl:l.length<=1048576)(x:aC):∀(n:Nat) (L:List Tn) (i:Nat) (nt:jf),L.length<6->i<=l.length->nt.length<=i->AQ l x (M.kL (.inr (g2 l x i false nt (dG true L)))) (SB l n L i nt)
 |0,_,_,_,_,_,_=>by rw[SB];trivial
 |n+1,L,i,nt,hL,hi,hn=>by
  rw[SB,M.kL,nameP];cases h6:aP l i==6 with
  |false=>
   have hb:M.dP (.inr (g2 l x i false nt (dG true L)))=some (.inr (.inl (g2 l x i true nt (dG true (L++[.mk 1 0 [] [] []]))))):=by simp only[yH,M.dP,M.iy,g2,Bool.not_false,aG,dJ,aBp h6,ah,afY,dh,GK];rw[bC ak,aG,bC ak,aG]
   rw[aT hb];exact⟨nt,_,ak,by rw[dh,wM,GK];omega,.inl rfl⟩
  |true=>
   have hlt:=fE h6 (by decide);simp only[aG,PR.bind];cases hc:aP l (i+1)==36 with
   |false=>
    have hb:M.dP (.inr (g2 l x i false nt (dG true L)))=some (.inr (.inl (g2 l x (i+1) false nt (dG true (L++[.mk 1 0 (Bv l i) [] []]))))):=by simp only[yH,M.dP,M.iy,g2,Bool.not_false,aG,aQ,dJ,alh hl h6,ah,afY,dh,GK,dV,bne,hc];rw[bC ak,aG,bC ak,aG]
    rw[aT hb];rfl
   |true=>
    have hlt':=fE hc (by decide);simp only[aG];cases hs:Nat.beq (L.length+1) 6 with
    |true=>
     have e:=Dy hs;have e':(((L.length+1:Nat):Int)==6)=true:=by rw[e];rfl
     have hb:M.dP (.inr (g2 l x i false nt (dG true L)))=some (.inr (.inr (.inr (.inl (g3 l x (i+1) nt (dG true (L++[.mk 1 0 (Bv l i) [] []]))))))):=by simp only[yH,M.dP,M.iy,g2,g3,Bool.not_false,zaP,aG,aQ,dJ,alh hl h6,ah,afY,dh,GK,wM,dV,bne,hc,e'];rw[bC ak,aG,bC ak,aG]
     rw[aT hb];exact⟨nt,_,ak,by rw[dh,wM,GK];omega,.inr rfl⟩
    |false=>
     have e:L.length+1≠6:=Nat.ne_of_beq_eq_false hs;have e':(((L.length+1:Nat):Int)==6)=false:=by rw[mX];omega
     have hf:=NR (l:=l) (i:=i+1+1) (nt:=nt) ak;have hb:M.dP (.inr (g2 l x i false nt (dG true L)))=some (.inl (.inr (g2 l x (nl l (i+1+1) nt).1 false (nl l (i+1+1) nt).2 (dG true (L++[.mk 1 0 (Bv l i) [] []]))))):=by simp only[yH,M.dP,M.iy,g2,Bool.not_false,zaP,aG,aQ,dJ,alh hl h6,ah,afY,dh,GK,wM,dV,bne,hc,e',ny hl hlt',Qy hl (i+1+1) nt ak ak];rw[bC ak,aG,bC ak,aG]
     rw[cu hb];exact asC hl x n _ _ _ (by rw[wM,GK];omega) ak ak
def ayb(hl:l.length<=1048576)(x:aC)(n:Nat){i:Nat}{nt:jf}(hi:i<=l.length)(hn:nt.length<=i):
  AQ l x (M.kL (.inl (true,aF l,(i:Int),false,0,0,[],[],44,0,x,[],encS nt))) (SB l n [] i nt):=by
 cases n with
 |zero=>rw[SB];trivial
 |succ n=>
  have hrow:∀s:aC,[[D.int .i64 1,D.int .i64 0,D.str s,D.str [],D.sl true 5 []]]=dG true ([]++[Tn.mk 1 0 s [] []]):=λs=>rfl
  rw[SB,M.kL,nameP];cases h6:aP l i==6 with
  |false=>
   have hb:M.dP (.inl (true,aF l,(i:Int),false,0,0,[],[],44,0,x,[],encS nt))=some (.inr (.inl (g2 l x i true nt (dG true ([]++[.mk 1 0 [] [] []]))))):=by simp only[yH,M.dP,M.iy,g2,Bool.not_false,aG,dJ,aBp h6,ah,hrow]
   rw[aT hb];exact⟨nt,_,ak,by rw[dh];decide,.inl rfl⟩
  |true=>
   have hlt:=fE h6 (by decide);simp only[aG,PR.bind];cases hc:aP l (i+1)==36 with
   |false=>
    have hb:M.dP (.inl (true,aF l,(i:Int),false,0,0,[],[],44,0,x,[],encS nt))=some (.inr (.inl (g2 l x (i+1) false nt (dG true ([]++[.mk 1 0 (Bv l i) [] []]))))):=by simp only[yH,M.dP,M.iy,g2,Bool.not_false,aG,aQ,dJ,alh hl h6,ah,hrow,dV,bne,hc]
    rw[aT hb];rfl
   |true=>
    have hlt':=fE hc (by decide);have hf:=NR (l:=l) (i:=i+1+1) (nt:=nt) ak;have hb:M.dP (.inl (true,aF l,(i:Int),false,0,0,[],[],44,0,x,[],encS nt))=some (.inl (.inr (g2 l x (nl l (i+1+1) nt).1 false (nl l (i+1+1) nt).2 (dG true ([]++[.mk 1 0 (Bv l i) [] []]))))):=by simp only[yH,M.dP,M.iy,g2,Bool.not_false,zaP,aG,aQ,dJ,alh hl h6,ah,hrow,dV,bne,hc,ny hl hlt',Qy hl (i+1+1) nt ak ak]
    rw[cu hb];exact asC hl x n _ _ _ (by simp) ak ak
def anM:∀(n:Nat) (L:List Tn) (i:Nat) (nt:jf),L.length<6->(SB l n L i nt).sat λL' _ _=>L'.length<=6
 |0,_,_,_,_=>by rw[SB];trivial
 |n+1,L,i,nt,hL=>by
  rw[SB,eF,XQ];intro _;rw[dY];refine⟨λ_=> ?_,λ_=> ?_⟩
  ·rw[dY];refine⟨λ_=>trivial,λh=> ?_⟩;have:=Nat.ne_of_beq_eq_false h;exact anM n _ _ _ (by rw[wM,GK];omega)
  ·show(L++[_]).length<=6;rw[wM,GK];omega
noncomputable def fnC(x:aC)(c:ay)(c1:Int)(c2:Bool)(c3:ay):Option TT:=
 ((M.aI 32 c c1 c2 c3).bind λagI=>
 (bif !agI.2.2.2.1 then
 (bif aj agI.2.2.2.2 then
 ((M.aA agI.2.1 agI.2.2.1 agI.2.2.2.1 agI.2.2.2.2).bind λabN=>
 (bif abN.1 !=33 then
 ((M.kL (.inl ((true,abN.2.1,abN.2.2.1,abN.2.2.2.1,0,0,[],[],44,0,x,[],abN.2.2.2.2)))).bind λaZZ=>
 jX aZZ (λaiv=>
 (bif aj aiv.2.2.2.2.2.2.2.2.2.2.2.1 then
 ((M.aI 33 aiv.1 aiv.2.1 aiv.2.2.1 aiv.2.2.2.2.2.2.2.2.2.2.2.1).bind λaua=>
 (bif aj aua.2.2.2.2 then
 ((M.aK aua.2.1 aua.2.2.1 aua.2.2.2.1 aua.2.2.2.2).bind λaqs=>
 (bif aj aqs.2.2.2 then
 ((M.bQ aqs.1 aqs.2.1 aqs.2.2.1 aqs.2.2.2).bind λXT=>
 (bif((aiv.2.2.2.2.2.2.2.2.2.2.2.2.length+[[D.int IntKind.i64 XT.1,D.int IntKind.i64 XT.2.1,D.str XT.2.2.1,D.str XT.2.2.2.1,D.sl false 5 (aB XT.2.2.2.2.2.1)]].length) * 72).ble 140737488355328 then
 (bif(aiv.2.2.2.2.2.2.2.2.2.2.2.2.length+[[D.int IntKind.i64 XT.1,D.int IntKind.i64 XT.2.1,D.str XT.2.2.1,D.str XT.2.2.2.1,D.sl false 5 (aB XT.2.2.2.2.2.1)]].length).ble 140737488355328 then
 (bif aj XT.2.2.2.2.2.2.2.2.2 then
 (some ((aiv.2.2.2.2.2.2.2.1,aiv.2.2.2.2.2.2.2.2.1,aiv.2.2.2.2.2.2.2.2.2.1,aiv.2.2.2.2.2.2.2.2.2.2.1,true,aiv.2.2.2.2.2.2.2.2.2.2.2.2++[[D.int IntKind.i64 XT.1,D.int IntKind.i64 XT.2.1,D.str XT.2.2.1,D.str XT.2.2.2.1,D.sl false 5 (aB XT.2.2.2.2.2.1)]],XT.2.2.2.2.2.2.1,XT.2.2.2.2.2.2.2.1,XT.2.2.2.2.2.2.2.2.1,XT.2.2.2.2.2.2.2.2.2))) else none) else none) else none)) else none)) else none)) else none)) λaZ0=>
 jX aZ0 (λapv=>
 (bif aj apv.2.2.2.2.2.2.2.2.2.2.2 then
 ((M.aI 33 apv.1 apv.2.1 apv.2.2.1 apv.2.2.2.2.2.2.2.2.2.2.2).bind λaub=>
 (bif aj aub.2.2.2.2 then
 ((M.aK aub.2.1 aub.2.2.1 aub.2.2.2.1 aub.2.2.2.2).bind λaoS=>
 (bif aj aoS.2.2.2 then
 ((M.bQ aoS.1 aoS.2.1 aoS.2.2.1 aoS.2.2.2).bind λaip=>
 (bif aj aip.2.2.2.2.2.2.2.2.2 then
 (some ((apv.2.2.2.2.2.2.2.1,apv.2.2.2.2.2.2.2.2.1,apv.2.2.2.2.2.2.2.2.2.1,apv.2.2.2.2.2.2.2.2.2.2.1,true,[[D.int IntKind.i64 aip.1,D.int IntKind.i64 aip.2.1,D.str aip.2.2.1,D.str aip.2.2.2.1,D.sl false 5 (aB aip.2.2.2.2.2.1)]],aip.2.2.2.2.2.2.1,aip.2.2.2.2.2.2.2.1,aip.2.2.2.2.2.2.2.2.1,aip.2.2.2.2.2.2.2.2.2))) else none)) else none)) else none)) else none)) λaZ1=>
 jX aZ1 (λali=>
 (bif aj ali.2.2.2.2.2.2.2.2.2.2.1 then
 ((M.aI 33 ali.1 ali.2.1 true ali.2.2.2.2.2.2.2.2.2.2.1).bind λaBq=>
 (bif aj aBq.2.2.2.2 then
 ((M.aK aBq.2.1 aBq.2.2.1 aBq.2.2.2.1 aBq.2.2.2.2).bind λakv=>
 (bif aj akv.2.2.2 then
 ((M.bQ akv.1 akv.2.1 akv.2.2.1 akv.2.2.2).bind λVD=>
 (bif((ali.2.2.2.2.2.2.2.2.2.2.2.length+[[D.int IntKind.i64 VD.1,D.int IntKind.i64 VD.2.1,D.str VD.2.2.1,D.str VD.2.2.2.1,D.sl false 5 (aB VD.2.2.2.2.2.1)]].length) * 72).ble 140737488355328 then
 (bif(ali.2.2.2.2.2.2.2.2.2.2.2.length+[[D.int IntKind.i64 VD.1,D.int IntKind.i64 VD.2.1,D.str VD.2.2.1,D.str VD.2.2.2.1,D.sl false 5 (aB VD.2.2.2.2.2.1)]].length).ble 140737488355328 then
 (bif aj VD.2.2.2.2.2.2.2.2.2 then
 (some ((ali.2.2.2.2.2.2.1,ali.2.2.2.2.2.2.2.1,ali.2.2.2.2.2.2.2.2.1,ali.2.2.2.2.2.2.2.2.2.1,true,ali.2.2.2.2.2.2.2.2.2.2.2++[[D.int IntKind.i64 VD.1,D.int IntKind.i64 VD.2.1,D.str VD.2.2.1,D.str VD.2.2.2.1,D.sl false 5 (aB VD.2.2.2.2.2.1)]],VD.2.2.2.2.2.2.1,VD.2.2.2.2.2.2.2.1,VD.2.2.2.2.2.2.2.2.1,VD.2.2.2.2.2.2.2.2.2))) else none) else none) else none)) else none)) else none)) else none)) λaZ2=>
 letE aZ2 λaiw=>
 (bif aj aiw.2.2.2.2.2.2.2.2.2.2.2.1 then
 ((M.aI 33 aiw.1 aiw.2.1 aiw.2.2.1 aiw.2.2.2.2.2.2.2.2.2.2.2.1).bind λaoT=>
 (bif aj aoT.2.2.2.2 then
 ((M.aK aoT.2.1 aoT.2.2.1 aoT.2.2.2.1 aoT.2.2.2.2).bind λat7=>
 (bif aj at7.2.2.2 then
 ((M.bQ at7.1 at7.2.1 at7.2.2.1 at7.2.2.2).bind λUd=>
 (bif((aiw.2.2.2.2.2.2.2.2.2.2.2.2.length+[[D.int IntKind.i64 Ud.1,D.int IntKind.i64 Ud.2.1,D.str Ud.2.2.1,D.str Ud.2.2.2.1,D.sl false 5 (aB Ud.2.2.2.2.2.1)]].length) * 72).ble 140737488355328 then
 (bif(aiw.2.2.2.2.2.2.2.2.2.2.2.2.length+[[D.int IntKind.i64 Ud.1,D.int IntKind.i64 Ud.2.1,D.str Ud.2.2.1,D.str Ud.2.2.2.1,D.sl false 5 (aB Ud.2.2.2.2.2.1)]].length).ble 140737488355328 then
 (bif aj Ud.2.2.2.2.2.2.2.2.2 then
 (some ((aiw.2.2.2.2.2.2.2.1,aiw.2.2.2.2.2.2.2.2.1,aiw.2.2.2.2.2.2.2.2.2.1,aiw.2.2.2.2.2.2.2.2.2.2.1,true,aiw.2.2.2.2.2.2.2.2.2.2.2.2++[[D.int IntKind.i64 Ud.1,D.int IntKind.i64 Ud.2.1,D.str Ud.2.2.1,D.str Ud.2.2.2.1,D.sl false 5 (aB Ud.2.2.2.2.2.1)]],Ud.2.2.2.2.2.2.1,Ud.2.2.2.2.2.2.2.1,Ud.2.2.2.2.2.2.2.2.1,Ud.2.2.2.2.2.2.2.2.2))) else none) else none) else none)) else none)) else none)) else none)) else
 (bif aj abN.2.2.2.2 then
 ((M.aI 33 abN.2.1 abN.2.2.1 abN.2.2.2.1 abN.2.2.2.2).bind λaBr=>
 (bif aj aBr.2.2.2.2 then
 ((M.aK aBr.2.1 aBr.2.2.1 aBr.2.2.2.1 aBr.2.2.2.2).bind λaBs=>
 (bif aj aBs.2.2.2 then
 ((M.bQ aBs.1 aBs.2.1 aBs.2.2.1 aBs.2.2.2).bind λabP=>
 (bif aj abP.2.2.2.2.2.2.2.2.2 then
 (some ((44,0,x,[],true,[[D.int IntKind.i64 abP.1,D.int IntKind.i64 abP.2.1,D.str abP.2.2.1,D.str abP.2.2.2.1,D.sl false 5 (aB abP.2.2.2.2.2.1)]],abP.2.2.2.2.2.2.1,abP.2.2.2.2.2.2.2.1,abP.2.2.2.2.2.2.2.2.1,abP.2.2.2.2.2.2.2.2.2))) else none)) else none)) else none)) else none))) else none) else
 (bif aj agI.2.2.2.2 then
 ((M.aI 33 agI.2.1 agI.2.2.1 agI.2.2.2.1 agI.2.2.2.2).bind λaBt=>
 (bif aj aBt.2.2.2.2 then
 ((M.aK aBt.2.1 aBt.2.2.1 aBt.2.2.2.1 aBt.2.2.2.2).bind λaBu=>
 (bif aj aBu.2.2.2 then
 ((M.bQ aBu.1 aBu.2.1 aBu.2.2.1 aBu.2.2.2).bind λal3=>
 (bif aj al3.2.2.2.2.2.2.2.2.2 then
 (some ((44,0,x,[],true,[[D.int IntKind.i64 al3.1,D.int IntKind.i64 al3.2.1,D.str al3.2.2.1,D.str al3.2.2.2.1,D.sl false 5 (aB al3.2.2.2.2.2.1)]],al3.2.2.2.2.2.2.1,al3.2.2.2.2.2.2.2.1,al3.2.2.2.2.2.2.2.2.1,al3.2.2.2.2.2.2.2.2.2))) else none)) else none)) else none)) else none)))
def fpP(l:List Tk)(n:Nat)(x:aC)(j:Nat)(nt:jf):PR Tn:=(lU l 32 j nt).bind λ_ j nt=>(bif aP l j==33 then .ok [] j nt else SB l n [] j nt).bind λL j nt=>(lU l 33 j nt).bind λ_ j nt=>(Vk l n (nl l j nt).1 (nl l j nt).2).bind λb j nt=> .ok (.mk 44 0 x [] (L++[b])) j nt
def aG6(hl:l.length<=1048576)(n:Nat)(x:aC){i:Nat}{nt:jf}(hi:i<=l.length)(hn:nt.length<=i):AT l (fnC x (aF l) (i:Int) false (encS nt)) (fpP l n x i nt):=by
 rw[fnC,fpP];refine KN (R:=AT l) hl (by decide) ?_ (λ_ hlt=> ?_)
 ·simp only[zaP,aQ,dJ,aG,sU,ah,GH];refine AT.Dw (R:=λo=>AT l o (.bad i)) (aww hl ak) λk op x y fl ks nt hn=> ?_
  simp only[dJ,aG];exact AT.jI hn
 ·simp only[Bool.not_false,aG,dJ,dV,ah,bne];cases h33:aP l (i+1)==33 with
  |true=>
   simp only[zaP,aQ,dJ,aG,PR.bind];have e33:aP l (i+1)=33:=by rwa [beq_iff_eq] at h33
   have hlt':=fE h33 (by decide);have hf:=NR (l:=l) (i:=i+1+1) (nt:=nt) ak;simp only[lU,h33,aG,auR hl (by decide) e33,ah,dJ,Qy hl (i+1+1) nt ak ak];refine AT.elim (R:=AT l) (asB hl n ak ak) (λ_=>trivial) (λk op x y fl ks j nt hn=> ?_) (λb fb kb j nt hb eb=> ?_)
   ·simp only[dJ,aG];exact AT.jI hn
   ·simp only[dJ,aG];exact AT.mk rfl rfl rfl rfl (fz1 (La hb))
  |false=>
   simp only[Bool.not_false,aG,aQ];have hp:=ayb hl x n (i:=i+1) (nt:=nt) ak ak;have asA:=aps (l:=l) n [] (i+1) nt ak;have h6:(SB l n [] (i+1) nt).sat λL _ _=>L.length<=6:=anM n [] (i+1) nt (by decide)
   generalize SB l n [] (i+1) nt=p at hp asA h6|-;cases p with
   |out=>trivial
   |bad j=>
    obtain⟨Zo,rows,h1,h2,h3|h3⟩:=hp
    ·rw[h3,ah];simp only[g2,jX,dJ,aG,sU,ah,GH];refine AT.Dw (R:=λo=>AT l o (.bad j)) (aww hl h1) λk op x y fl ks nt hn=> ?_
     simp only[GK,dJ,aG];rw[bC ak,aG,bC ak,aG];exact AT.jI hn
    ·rw[h3,ah];simp only[g3,jX,dJ,aG,sU,ah,GH];refine AT.Dw (R:=λo=>AT l o (.bad j)) (aww hl h1) λk op x y fl ks nt hn=> ?_
     simp only[GK,dJ,aG];rw[bC ak,aG,bC ak,aG];exact AT.jI hn
   |ok L j m=>
    have hp':_=_:=hp;have hs':i+1<j/\FN l (i+1) nt.length j m.length/\sizes L+m.length+6 * (i+1)<=sizes ([]:List Tn)+nt.length+6 * j:=asA;have h6':L.length<=6:=h6;rw[hp',ah];simp only[g2,jX,dJ,aG,PR.bind];refine KN (R:=AT l) hl (by decide) ?_ (λ_ hlt=> ?_)
    ·simp only[dJ,aG,GH,ah];refine AT.Dw (R:=λo=>AT l o (.bad j)) (aww hl ak) λk op x y fl ks nt hn=> ?_
     simp only[GK,dh,dJ,aG];rw[bC ak,aG,bC ak,aG];exact AT.jI hn
    ·have hf:=NR (l:=l) (i:=j+1) (nt:=m) ak;simp only[dJ,aG,Qy hl (j+1) m ak ak,ah];refine AT.elim (R:=AT l) (asB hl n ak ak) (λ_=>trivial) (λk op x y fl ks j nt hn=> ?_) (λb fb kb j nt hb eb=> ?_)
     ·simp only[GK,dh,dJ,aG];rw[bC ak,aG,bC ak,aG];exact AT.jI hn
     ·simp only[GK,dh,dJ,aG];rw[bC ak,aG,bC ak,aG];exact AT.mk rfl rfl rfl rfl (by rw[aeH,iY,fz1 (La hb)];exact(zJ _ _ _).symm)
def aSf(hl:l.length<=1048576)(n:Nat){i:Nat}{nt:jf}(hi:i<=l.length)(hn:nt.length<=i):AT l (M.ni (aF l) (i:Int) false (encS nt)) (aAy l n i nt):=by
 simp only[M.ni,M.zI,M.AU,M.AV,M.yA,dJ,aG,dV,ah,bne,aAy];cases h6:aP l i==6 with
 |true=>have hlt:=fE h6 (by decide);simp only[zaP,aQ,dJ,aG,KL hl hlt,ah,Bool.true_or];exact aG6 hl n (Bv l i) ak ak
 |false=>
  simp only[Bool.not_false,aG,Bool.false_or];cases h7:aP l i==7 with
  |true=>have hlt:=fE h7 (by decide);simp only[zaP,aQ,dJ,aG,KL hl hlt,ah];exact aG6 hl n (Bv l i) ak ak
  |false=>simp only[Bool.not_false,aG,aQ,dJ];exact AT.jI ak
def aBv{k op:Int}{s s':aC}{fl:Bool}{ks:ay}{x:Tn}{j:Nat}{nt:jf}(h1:k=x.kind)(h2:op=x.op)(h3:s=x.text)(h4:s'=x.other)(h5:aB ks=dG false x.kids)(hn:nt.length<=l.length):
  AT l ((M.iW (aF l) (j:Int) false (encS nt)).bind λr=>bif aj r.2.2.2 then some (k,op,s,s',fl,ks,r.1,r.2.1,r.2.2.1,r.2.2.2) else none) (endP l x j nt):=by
 rw[auP,ah];simp only[dJ,aG];exact aBk h1 h2 h3 h4 h5 hn
def apw(hl:l.length<=1048576)(n:Nat)(k op:Int){i:Nat}{nt:jf}(hi:i<=l.length)(hn:nt.length<=i):
  AT l ((M.bQ (aF l) (i:Int) false (encS nt)).bind λr=>bif aj r.2.2.2.2.2.2.2.2.2 then some (k,op,[],[],true,[[D.int .i64 r.1,D.int .i64 r.2.1,D.str r.2.2.1,D.str r.2.2.2.1,D.sl false 5 (aB r.2.2.2.2.2.1)]],r.2.2.2.2.2.2.1,r.2.2.2.2.2.2.2.1,r.2.2.2.2.2.2.2.2.1,r.2.2.2.2.2.2.2.2.2) else none)
   ((Vk l n i nt).bind λb i nt=> .ok (.mk k op [] [] [b]) i nt):=by
 refine AT.elim (R:=AT l) (asB hl n hi hn) (λ_=>trivial) (λk op x y fl ks j nt hn=> ?_) (λb fb kb j nt hb eb=> ?_)
 ·simp only[dJ,aG];exact AT.jI hn
 ·simp only[dJ,aG];exact AT.mk rfl rfl rfl rfl (fz1 (La hb))
def aBw(hl:l.length<=1048576)(n:Nat){i:Nat}{nt:jf}(hi:i<=l.length)(hn:nt.length<=i):AT l (M.kW (aF l) (i:Int) false (encS nt)) (adE l n i nt):=by
 simp only[M.kW,M.Gs,M.En,M.Eo,dJ,aG,dV,ah,adE];cases h10:aP l i==10 with
 |true=>have hlt:=fE h10 (by decide);simp only[aG,ny hl hlt];exact apw hl n 40 0 ak ak
 |false=>
 cases h11:aP l i==11 with
 |true=>have hlt:=fE h11 (by decide);simp only[aG,aQ,ny hl hlt];exact apw hl n 41 0 ak ak
 |false=>
 cases h12:aP l i==12 with
 |true=>have hlt:=fE h12 (by decide);simp only[aG,aQ,ny hl hlt];exact AT.pass (aSf hl n ak ak) (by intros;simp only[dJ,aG])
 |false=>
 cases h30:aP l i==30 with
 |true=>simp only[aG,aQ];exact apw hl n 42 2 hi hn
 |false=>
 simp only[aQ];refine AP.elim (R:=AT l) (ald hl n false false hi hn) (λ_=>trivial) (λk op x y fl ks tg j nt hn=> ?_) (λx fx kx j nt hx ex=> ?_)
 ·simp only[zaP,aQ,dJ,aG];exact AT.jI hn
 ·have s1:=ql (IE ak ak hi) ex;simp only[Bool.not_false,aG,dJ,dV,ah];cases h36:aP l j==36 with
  |false=>
   simp only[aQ,PR.bind];cases hb:aP l j==30 with
   |false=>simp only[aQ];exact aBv rfl rfl rfl rfl (fz1 (La hx)) ak
   |true=>
    simp only[aG];refine AT.elim (R:=AT l) (asB hl n ak ak) (λ_=>trivial) (λk op x y fl ks j nt hn=> ?_) (λb fb kb j nt hb eb=> ?_)
    ·simp only[dJ,aG];exact AT.jI hn
    ·simp only[dJ,aG];exact AT.mk rfl rfl rfl rfl (by rw[aeH,fz1 (La hx),fz1 (La hb)];rfl)
  |true=>
   have hlt:=fE h36 (by decide);have hf:=NR (l:=l) (i:=j+1) (nt:=nt) ak;simp only[aG,ny hl hlt,Qy hl (j+1) nt ak ak,ah,dJ];have e:∀p:PR Xp,((p.bind λy i nt=>PR.ok ((43:Int),[x.1,y.1]) i nt).bind λq i nt=>bif aP l i==30 then(Vk l n i nt).bind λb i nt=>PR.ok (Tn.mk q.1 3 [] [] (q.2++[b])) i nt else endP l (Tn.mk q.1 1 [] [] q.2) i nt)=
     p.bind λy i nt=>bif aP l i==30 then(Vk l n i nt).bind λb i nt=>PR.ok (Tn.mk 43 3 [] [] ([x.1,y.1]++[b])) i nt else endP l (Tn.mk 43 1 [] [] [x.1,y.1]) i nt:=by
    intro p;cases p<;>rfl
   rw[e];refine AP.elim (R:=AT l) (ald hl n false false ak ak) (λ_=>trivial) (λk op x y fl ks tg j nt hn=> ?_) (λy fy ky j nt hy ey=> ?_)
   ·simp only[zaP,aQ,dJ,aG];exact AT.jI hn
   ·have s2:=ql (IE ak ak ak) ey;simp only[Bool.not_false,aG,dJ,dV,ah];cases hb:aP l j==30 with
    |false=>simp only[aQ];exact aBv rfl rfl rfl rfl (by rw[aeH,fz1 (La hx),fz1 (La hy)];rfl) ak
    |true=>
     simp only[aG];refine AT.elim (R:=AT l) (asB hl n ak ak) (λ_=>trivial) (λk op x y fl ks j nt hn=> ?_) (λb fb kb j nt hb eb=> ?_)
     ·simp only[dJ,aG];exact AT.jI hn
     ·simp only[dJ,aG];exact AT.mk rfl rfl rfl rfl (by rw[aeH,aeH,fz1 (La hx),fz1 (La hy),fz1 (La hb)];rfl)
def ayc(hl:l.length<=1048576){i:Nat}{nt:jf}(h:aP l i=31)(hi:i<=l.length)(hn:nt.length<=i):AT l (M.kW (aF l) (i:Int) false (encS nt)) (.bad i):=by
 have e:adE l 20 i nt=.bad i:=by
  have e:ex l 20 1 false false i nt=.bad i:=awv (.inr h) nt 1 (by decide) (by decide) 20 false false (by decide);have h1:(aP l i==10)=false:=by rw[h];rfl
  have h2:(aP l i==11)=false:=by rw[h];rfl
  have h3:(aP l i==12)=false:=by rw[h];rfl
  have h4:(aP l i==30)=false:=by rw[h];rfl
  simp only[adE,h1,h2,h3,h4,aQ,e];rfl
 have:=aBw hl 20 hi hn
 rwa [e] at this
variable {l:List Tk}
abbrev P1:=ay×Int×Int×ay×Int×Bool×Int×Int×aC×aC×ay
abbrev P2:=ay×Int×Int×ay×Int×Bool×Int×Int×aC×aC×ay×ay
def p1(l:List Tk)(i:Nat)(b:Bool)(nt:jf):P1:=(aF l,0,0,aF l,(i:Int),b,45,0,[],[],encS nt)
def p2(l:List Tk)(i:Nat)(b:Bool)(nt:jf)(rows:ay):P2:=(aF l,0,0,aF l,(i:Int),b,45,0,[],[],encS nt,rows)
def AD(l:List Tk)(o:Option (P1⊕P2)):PR (List Tn)->Prop
 | .ok L' j Zo=>∃L0 i0 nt0 u,o=some u/\(u=.inl (p1 l i0 false nt0)/\L0=[]\/u=.inr (p2 l i0 false nt0 (dG false L0)))/\L'=L0++Y8 nt0/\nt0.length<=l.length/\L0.length<=2 * l.length
 | .bad j=>∃u nt0,o=some u/\(u=.inl (p1 l j true nt0)\/∃rows:ay,u=.inr (p2 l j true nt0 rows))
 | .out=>True
def anN(hl:l.length<=1048576)(hk:∀i,i<l.length->aP l i≠0):
  ∀n,∀(L:List Tn) (i:Nat) (nt:jf) (s:P1⊕P2),(s=.inl (p1 l (sep l i nt).1 false (sep l i nt).2)/\L=[]\/s=.inr (p2 l (sep l i nt).1 false (sep l i nt).2 (dG false L)))->i<=l.length->nt.length<=i->L.length+nt.length<=2 * i->
   AD l (M.zn s) (Vl l n L i nt)
 |0,_,_,_,_,_,_,_,_=>by rw[Vl];trivial
 |n+1,L,i,nt,s,hs,hi,hn,hL=>by
  have hq:=aeG (l:=l) (i:=i) (nt:=nt) hi;simp only[Vl];generalize hqe:sep l i nt=q at hs hq|-;rw[M.zn];cases h0:aP l q.1==0 with
  |true=>
   have e0:aP l q.1=0:=by rwa [beq_iff_eq] at h0
   have hge:¬q.1<l.length:=λh=>hk q.1 h e0
   refine⟨L,q.1,q.2,s, ?_,hs,rfl,ak,ak⟩;rcases hs with⟨rfl,rfl⟩|rfl<;>refine aT ?_<;>simp only[yH,M.qO,M.qN,p1,p2,Bool.not_false,aG,gZ]<;>
    rw[vG ak,aQ]
  |false=>
   have hlt:q.1<l.length:=jH (by rwa [mX] at h0);have hb:M.qO s=(M.kW (aF l) (q.1:Int) false (encS [])).bind λr=>
     bif(((dG false (L++Y8 q.2)).length+[[D.int .i64 r.1,D.int .i64 r.2.1,D.str r.2.2.1,D.str r.2.2.2.1,D.sl false 5 (aB r.2.2.2.2.2.1)]].length) * 72).ble 140737488355328 then
      (bif((dG false (L++Y8 q.2)).length+[[D.int .i64 r.1,D.int .i64 r.2.1,D.str r.2.2.1,D.str r.2.2.2.1,D.sl false 5 (aB r.2.2.2.2.2.1)]].length).ble 140737488355328 then
      (bif aj r.2.2.2.2.2.2.2.2.2 then
       ((M.bG r.2.2.2.2.2.2.1 r.2.2.2.2.2.2.2.1 r.2.2.2.2.2.2.2.2.1 r.2.2.2.2.2.2.2.2.2).bind λr'=>
       (some (.inl (.inr ((aF l,0,0,r'.1,r'.2.1,r'.2.2.1,45,0,[],[],r'.2.2.2,dG false (L++Y8 q.2)++[[D.int .i64 r.1,D.int .i64 r.2.1,D.str r.2.2.1,D.str r.2.2.2.1,D.sl false 5 (aB r.2.2.2.2.2.1)]]):P2))))) else none) else none) else none:=by
    have hc:=Bc (l:=l) (q.1:Int) false q.2 ak;have hlen:(L.length+q.2.length) * 72<=140737488355328:=ak;rcases hs with⟨rfl,rfl⟩|rfl
    ·simp only[yH,M.qO,M.qN,p1,Bool.not_false,aG,gZ];rw[zdt ak,aG];simp only[aG,dJ,ah,hc,iY,List.nil_append];rw[show(dG false (Y8 q.2)).length=q.2.length by rw[dh,Bz],bC ak,aG,bC ak,aG]
    ·simp only[yH,M.qO,M.qN,p2,Bool.not_false,aG,gZ];rw[zdt ak,aG];simp only[aG,dJ,ah,hc,iY,<-zJ];rw[show(dG false L).length+(dG false (Y8 q.2)).length=L.length+q.2.length by rw[dh,dh,Bz],bC ak,aG,bC ak,aG]
   rw[aQ];have hbad:∀{j:Nat},AT l (M.kW (aF l) (q.1:Int) false (encS [])) (.bad j)->AD l (fJ M.qO s) (.bad j):=by intro j hj;obtain⟨k,op,x,y,fl,ks,Zo,h1,h2⟩:=hj;rw[h2,ah] at hb;simp only[dh,wM,Bz,GK,dJ,aG,alb,ah] at hb;rw[bC ak,aG,bC ak,aG] at hb;rw[cu hb];exact⟨_,Zo,aT rfl,.inr ⟨_,rfl⟩⟩
   cases h31:aP l q.1==31 with
   |true=>
    have e31:aP l q.1=31:=by rwa [beq_iff_eq] at h31
    exact hbad (ayc hl e31 ak (Nat.zero_le _))
   |false=>
    rw[aQ];have hr:=aBw hl n (i:=q.1) (nt:=[]) ak (Nat.zero_le _);have asA:=aFB (l:=l) (n:=n) (i:=q.1) (nt:=[]) ak;generalize adE l n q.1 []=p at hr asA|-;cases p with
    |out=>trivial
    |bad j=>exact hbad hr
    |ok x j m'=>obtain⟨fl,kt,h1,h2⟩:=hr;have aBo:FS l q.1 ([]:jf).length x.size j m'.length:=asA;rw[SS] at aBo;rw[h2,ah] at hb;simp only[afV h1,dh,wM,Bz,GK,dJ,aG,anL hl j m' ak ak,ah] at hb;rw[bC ak,aG,bC ak,aG] at hb;rw[cu hb];refine anN hl hk n ((L++Y8 q.2)++[x]) j m' _ (.inr rfl) ak ak ?_;simp only[wM,Bz,GK];omega
noncomputable def aFS(rows:ay):Option (ay×Int×Int):=
 (M.uj 45 0 [] [] rows).bind λr=>bif !bif r.1==0 then bif r.2==0 then true else false else false then some ([],r.1,r.2) else
  (M.oZ 45 0 [] [] rows).bind λr'=>bif[[D.sl true 5 r']].all dw then some (r',0,0) else none
def AE(l:List Tk)(o:Option (ay×Int×Int)):PR (List Tn)->Prop
 | .ok L _ _=>o=aFS (dG false L)
 | .bad j=>o=(M.uh (aF l) (j:Int)).bind λr=>some ([],3,r)
 | .out=>True
def aFT(hl:l.length<=1048576)(hk:∀i,i<l.length->aP l i≠0)(h0:M.zF (aF l)=some (0,0))(n:Nat):AE l (M.nU (aF l)) (Vl l n [] 0 []):=by
 have hloop:=anN hl hk n [] 0 [] (.inl (p1 l (sep l 0 []).1 false (sep l 0 []).2)) (.inl ⟨rfl,rfl⟩) (Nat.zero_le _) (zaQ _) (zaQ _);have hsep:=anL hl 0 [] (Nat.zero_le _) (zaQ _);have aSg:M.bG (aF l) 0 false []=some (aF l,((sep l 0 []).1:Int),false,encS (sep l 0 []).2):=hsep;simp only[M.nU,M.Gv,h0,ah,show((0:Int)==0)=true from rfl,aG,zaP,aQ,aSg];generalize sep l 0 []=q at hloop;rw[p1] at hloop;generalize Vl l n [] 0 []=p at hloop|-;cases p with
 |out=>trivial
 |bad j=>
  obtain⟨u,nt0,h1,h3⟩:=hloop;rw[h1,ah];show _=(M.uh (aF l) (j:Int)).bind λr=>some ([],3,r)
  rcases h3 with rfl|⟨rows,rfl⟩
  ·simp only[p1,jX,aG]
  ·simp only[p2,jX,letE,aG]
 |ok L' j Zo=>
  obtain⟨L0,i0,nt0,u,h1,h2,rfl,h4,h5⟩:=hloop;rw[h1,ah];show _=aFS _;rcases h2 with⟨rfl,rfl⟩|rfl
  ·simp only[p1,jX,aQ,dJ,aG,ah,Bc (l:=l) _ _ nt0 ak,iY,dh,Bz];rw[bC ak,aG,bC ak,aG];rfl
  ·simp only[p2,jX,letE,aQ,dJ,aG,ah,Bc (l:=l) _ _ nt0 ak,iY,dh,Bz,<-zJ];rw[bC ak,aG,bC ak,aG];rfl
end Go.Proofs.YtephpnbbbimjbaaGreatDoor
