import Derived.Test.YtbpldgeajbfgnaaGreatDoorXLev
namespace Go.Proofs.YtbpldgeajbfgnaaGreatDoor
set_option linter.unusedVariables false
set_option linter.unusedSimpArgs false
open Go Go.Vm
def opF(s:aF):List (aF)→Nat→Int→Nat→Int×Nat
 |[],_,k,m=>(k,m)
 |g::l,i,k,m=>bif Nat.blt m g.length && g.isPrefixOf s then opF s l (i+1) (30+(i:Int)) g.length else opF s l (i+1) k m
theorem aaq(s:aF):∀(l:List (aF)) (i:Nat) (k:Int) (m:Nat),(opF s l i k m).2=acy s l m
 |[],_,_,_=>rfl
 |g::l,i,k,m=>by
  rw[opF,acy]
  cases(Nat.blt m g.length && g.isPrefixOf s) with
  |true=>rw[cond_true,cond_true,aaq s l]
  |false=>rw[cond_false,cond_false,aaq s l]
theorem anI(s:aF)(L:List (aF)){b:Int×Int×Int→Option (Int×Int×Int⊕Int×Int×Int)}
  (hb:∀(i:Nat) g k (m:Nat),L[i]? =some g→m≤2→b (k,(m:Int),(i:Int))=some (.inl (bif Nat.blt m g.length && g.isPrefixOf s then(30+(i:Int),(g.length:Int),(i:Int)+1) else(k,(m:Int),(i:Int)+1))))
  (he:∀k m,b (k,m,(L.length:Int))=some (.inr (k,m,(L.length:Int)))) (h2:∀g,g∈L→g.length≤2):
  iR b (0,0,0)=some ((opF s L 0 0 0).1,((opF s L 0 0 0).2:Int),(L.length:Int)):=by
 have key:∀(t:List (aF)) (i:Nat) (k:Int) (m:Nat),L.drop i=t→i≤L.length→m≤2→iR b (k,(m:Int),(i:Int))=some ((opF s t i k m).1,((opF s t i k m).2:Int),(L.length:Int)):=by
  intro t
  induction t with
  |nil=>
   intro i k m hd hi hm
   have:i=L.length:=by
    have:=congrArg List.length hd
    simp at this
    omega
   subst this
   exact iW (he _ _)
  |cons g t ih=>
   intro i k m hd hi hm
   have hx:L[i]? =some g:=by
    have:(L.drop i)[0]? =some g:=by rw[hd];rfl
    simpa using this
   have hlt:i<L.length:=(List.getElem?_eq_some_iff.1 hx).1
   have hd':L.drop (i+1)=t:=by
    rw[←List.drop_drop,hd]
    rfl
   have hs:=hb i g k m hx hm
   have hg:=h2 g (List.mem_of_getElem? hx)
   rw[opF]
   cases hc:(Nat.blt m g.length && g.isPrefixOf s) with
   |true=>
    rw[hc,cond_true] at hs
    rw[jU hs,cond_true,show(i:Int)+1=((i+1:Nat):Int) by omega,ih (i+1) _ _ hd' hlt hg]
   |false=>
    rw[hc,cond_false] at hs
    rw[jU hs,cond_false,show(i:Int)+1=((i+1:Nat):Int) by omega,ih (i+1) _ _ hd' hlt hm]
 have:=key L 0 0 0 rfl (Nat.zero_le _) (by omega)
 rw[qH] at this
 exact this
theorem asH{α:Type}(s:List α)(n:Nat)(h:n≤s.length):cut s 0 (n:Int)=some (s.take n):=by
 unfold cut
 rw[decide_eq_true (by omega),decide_eq_true (by omega),decide_eq_true (by omega)]
 simp
theorem pre_eq:∀(g s:aF),g.length≤s.length→(s.take g.length==g)=g.isPrefixOf s
 |[],s,_=>by simp
 |x::g,[],h=>by simp at h
 |x::g,y::s,h=>by
  have hr:=pre_eq g s (by simpa using h)
  have hxy:(y==x)=(x==y):=by rw[Bool.eq_iff_iff,beq_iff_eq,beq_iff_eq];exact⟨Eq.symm,Eq.symm⟩
  rw[List.isPrefixOf,List.length_cons,List.take_succ_cons,←hr,←hxy]
  rfl
theorem aep(g s:aF)(h:s.length<g.length):g.isPrefixOf s=false:=by
 cases hp:g.isPrefixOf s with
 |false=>rfl
 |true=>
  have:=(List.isPrefixOf_iff_prefix.1 hp).length_le
  omega
theorem afH(s g:aF):M.strings_HasPrefix s g=some (g.isPrefixOf s):=by
 simp only[M.strings_HasPrefix,M.yI,M.iO,M.lK]
 by_cases h:g.length≤s.length
 ·rw[decide_eq_true (by omega),cond_true,asH s g.length h,ah,ah,pre_eq g s h]
 ·rw[decide_eq_false (by omega),cond_false,ah,aep g s (by omega)]
theorem asI:∀g,g∈Pg→g.length≤2:=by decide+kernel
theorem Tc(m n:Nat):decide ((n:Int)>(m:Int))=Nat.blt m n:=by
 cases hb:Nat.blt m n with
 |true=>rw[Nat.blt_eq] at hb;exact decide_eq_true (by omega)
 |false=>
  have:¬m<n:=by rw[←Nat.blt_eq,hb];simp
  exact decide_eq_false (by omega)
theorem afI(s:aF)(h0:s≠[])(hs:s.length≤4000000):M.qy s 0=some ((opF s Pg 0 0 0).1,((acy s Pg 0:Nat):Int)):=by
 have hl:Pg.length=39:=rfl
 have hn:1≤s.length:=by cases s with|nil=>exact absurd rfl h0|cons=>simp
 simp only[M.qy,M.Ob,M.L8,aN,ah]
 rw[aP (by omega) (by omega),decide_eq_true (by omega),decide_eq_true (by omega),Bool.and_self,Bool.not_true,cond_false]
 have hc:=asH s s.length (Nat.le_refl _)
 rw[List.take_length] at hc
 rw[anI s Pg (fun i g k m hg hm=> ?_) (fun k m=> ?_) asI,ah,aaq]
 ·have hi:=(List.getElem?_eq_some_iff.1 hg).1
  rw[hl] at hi
  have hsc:=anA i hi
  simp only[MR,hg] at hsc
  simp only[M.RJ,M.IL,Int.toNat_natCast,hsc,ah,hc,afH,Tc]
  rw[decide_eq_true (by omega),decide_eq_true (by omega),aP (by omega) (by omega),aP (by omega) (by omega)]
  cases Nat.blt m g.length<;>cases g.isPrefixOf s<;>rfl
 ·rw[hl]
  rfl
theorem alx{s:aF}(h:s≠[])(hl:s.length≤2000000):∃c,idx s (IntKind.i64.wrap ((s.length:Int) - 1))=some c∧lastB s=(c.toNat:Int):=by
 have hn:1≤s.length:=by cases s with|nil=>exact absurd rfl h|cons=>simp
 obtain⟨c,hc⟩:∃c,s[s.length - 1]? =some c:=⟨s[s.length - 1],by simp⟩
 refine⟨c, ?_, ?_⟩
 ·rw[aP (by omega) (by omega),show((s.length:Int) - 1)=((s.length - 1:Nat):Int) by omega,fG,hc]
 ·rw[lastB,List.getLast?_eq_getElem?,hc]
theorem anJ{s:aF}(h:s≠[]):∃c,idx s 0=some c∧amx s=(c.toNat:Int):=by
 cases s with
 |nil=>exact absurd rfl h
 |cons c s=>exact⟨c,rfl,rfl⟩
theorem anK(c:UInt8):IntKind.i64.wrap (c.toNat:Int)=(c.toNat:Int):=by
 have:=ak8 c
 exact aP (by omega) (by omega)
theorem Za(a b:Tk):Dz a b=bif a.text==[] then false else bif b.text==[] then false else bif a.kind==2 then false else bif a.kind==1 then false else bif b.kind==1 then false else
 bif isW (lastB a.text) && isW (amx b.text) then true else
 bif a.kind==3 &&(isW (amx b.text)||amx b.text==46) then true else
 bif a.kind==6 && b.kind==32 then true else
 bif !(decide (30≤a.kind) && decide (a.kind≤68)) then false else Nat.blt a.text.length (acy (a.text++b.text) Pg 0):=by
 unfold Dz
 simp only[Vo]
theorem Yg(a b:Tk)(ha:a.text.length≤2000000)(hb:b.text.length≤2000000):M.qR a.kind a.text a.at_ b.kind b.text b.at_=some (Dz a b):=by
 rw[Za]
 simp only[M.qR,M.FW]
 by_cases h1:a.text=[]
 ·rw[show(a.text==[])=true by simpa using h1,cond_true,cond_true]
 ·rw[show(a.text==[])=false by simpa using h1,cond_false,cond_false]
  by_cases h2:b.text=[]
  ·rw[show(b.text==[])=true by simpa using h2,cond_true,cond_true]
  ·obtain⟨c,hc,hc'⟩:=alx h1 ha
   obtain⟨d,hd,hd'⟩:=anJ h2
   have hop:=afI (a.text++b.text) (by simp[h1]) (by simp only[List.length_append];omega)
   rw[show(b.text==[])=false by simpa using h2,cond_false,cond_false,hc',hd']
   simp only[hc,hd,ah,anK,KH,M.iH,M.xE,aN,hop,Tc,ge_iff_le,Vo,afG,Pq,eY (show a.text.length+b.text.length≤9223372036854775807 by omega),cond_true]
def Oy{α:Type}:List (List α)→Nat
 |[]=>0
 |x::l=>x.length+Oy l
theorem anL{α:Type}:∀(L:List (List α)) (j:Nat),(xQ L j).length≤Oy L
 |[],j=>by simp[xQ,Oy]
 |x::l,0=>by simp[xQ,Oy]
 |x::l,j+1=>by
  have:=anL l j
  simp only[xQ,List.getElem?_cons_succ,Oy] at this⊢
  omega
theorem Sr:∀(L:List (List Tk)) (b:Bool),(BH b L).length≤Oy L+L.length
 |[],b=>by simp[BH,Oy]
 |x::l,b=>by
  have:=Sr l false
  cases b<;>simp only[BH,Oy,cond_true,cond_false,List.length_append,List.length_cons]<;>omega
theorem auD{α:Type}:∀(L:List (List α)),(xQ L 0).length+((xQ L 1).length+(xQ L 2).length)≤Oy L
 |[]=>by simp[xQ,Oy]
 |[x]=>by simp[xQ,Oy]
 |[x,y]=>by simp[xQ,Oy]
 |x::y::z::l=>by simp[xQ,Oy]
theorem CS{α:Type}{a b:List α}{N:Nat}(c:Bool)(ha:a.length≤N)(hb:b.length≤N):(bif c then a else b).length≤N:=by cases c<;>assumption
theorem asJ(k op:Int)(n:Nat)(x:aF)(L:List (List Tk)):(CX k op n x L).length≤Oy L+L.length+4:=by
 have h1:=Sr L true
 have h2:=anL L 0
 have h3:=auD L
 have h4:(bif Nat.blt 1 n then tok 32::(BH true L++[tok 33]) else xQ L 0:List Tk).length≤Oy L+L.length+2:=CS _ (by simp only[List.length_cons,List.length_append,List.length_nil];omega) (by omega)
 have h5:(bif op==99 then[] else[tok op]:List Tk).length≤1:=CS _ (by simp) (by simp)
 unfold CX
 refine CS _ ?_ (CS _ ?_ (CS _ ?_ (CS _ ?_ (CS _ ?_ (CS _ ?_ (CS _ ?_ (CS _ ?_ (CS _ ?_ (CS _ ?_ (CS _ ?_ (CS _ ?_ ?_)))))))))))
 all_goals(simp only[List.length_cons,List.length_append,List.length_nil];omega)
theorem EC(k op:Int)(n:Nat)(p:Ps):∀(ts:List Tn) (j:Nat),(jg k op n p ts j).length=ts.length
 |[],j=>by rw[jg];rfl
 |t::ts,j=>by rw[jg,List.length_cons,EC k op n p ts (j+1),List.length_cons]
def qY(k op:Int)(n:Nat)(p:Ps)(j:Nat)(u:Tn):List Tk:=bif nI k j||fits u.kind u.op (dZ k op n j p) then sF u (dZ k op n j p) else tok 32::(sF u .top++[tok 33])
theorem aer(k op:Int)(n:Nat)(p:Ps):∀{ts:List Tn} {i j:Nat} {u:Tn},ts[j]? =some u→(jg k op n p ts i)[j]? =some (qY k op n p (i+j) u)
 |[],_,_,_,h=>by simp at h
 |t::ts,i,0,u,h=>by
  cases h
  rw[jg,List.getElem?_cons_zero]
  rfl
 |t::ts,i,j+1,u,h=>by
  rw[List.getElem?_cons_succ] at h
  rw[jg,List.getElem?_cons_succ,aer k op n p h,show i+1+j=i+(j+1) by omega]
theorem Ja{k op:Int}{n:Nat}{p:Ps}{j:Nat}{u:Tn}(h:∀q,(sF u q).length+4≤8 * u.size):(qY k op n p j u).length+2≤8 * u.size:=by
 unfold qY
 cases(nI k j||fits u.kind u.op (dZ k op n j p)) with
 |true=>have:=h (dZ k op n j p);rw[cond_true];omega
 |false=>have:=h .top;simp only[cond_false,List.length_cons,List.length_append,List.length_nil];omega
theorem Td{k op:Int}{n:Nat}{p:Ps}:∀{ts:List Tn} {j:Nat},(∀u,u∈ts→∀q,(sF u q).length+4≤8 * u.size)→Oy (jg k op n p ts j)+2 * ts.length≤8 * sizes ts
 |[],j,_=>by rw[jg,Oy,sizes];simp
 |t::ts,j,h=>by
  have h1:=Ja (k:=k) (op:=op) (n:=n) (p:=p) (j:=j) (h t List.mem_cons_self)
  have h2:=Td (k:=k) (op:=op) (n:=n) (p:=p) (ts:=ts) (j:=j+1) fun u hu=>h u (List.mem_cons_of_mem _ hu)
  unfold qY at h1
  rw[jg,Oy,sizes,List.length_cons]
  omega
theorem nV(t:Tn):∀q,(sF t q).length+4≤8 * t.size:=by
 refine Tn.ind (P:=fun t=>∀q,(sF t q).length+4≤8 * t.size) ?_ t
 intro k op x y ks ih q
 have h1:=asJ k op ks.length x (jg k op ks.length q ks 0)
 have h2:=Td (k:=k) (op:=op) (n:=ks.length) (p:=q) (ts:=ks) (j:=0) ih
 rw[EC] at h1
 rw[sF,Tn.size]
 omega
theorem aes(t:Tn)(q:Ps):(Uj t q).length+2≤8 * t.size:=by
 have h1:=nV t q
 have h2:=nV t .top
 unfold Uj
 cases fits t.kind t.op q with
 |true=>rw[cond_true];omega
 |false=>simp only[cond_false,List.length_cons,List.length_append,List.length_nil];omega
@[simp] theorem dN(l:List Tk):aB (kF l)=true:=by
 simp only[aB,kF,List.all_map,List.all_eq_true]
 intro x _
 rfl
theorem kY(a b:List Tk):kF (a++b)=kF a++kF b:=by simp[kF]
theorem ER(a toks:List Tk)(sp:ak)(f:Bool)(hs:aB sp=true)(hl:toks.length+a.length≤1000000000):M.bZ (kF a) (kF toks) sp f=some (kF (toks++a),sp,f):=by
 simp only[M.bZ,M.Aq,iw,←kY,dN,hs,cond_true]
 rw[eY (by omega),cond_true,eY (by omega),cond_true]
def iota(n:Nat):List Int:=(List.range n).map fun(i:Nat)=>((i:Nat):Int)
theorem KW(n:Nat):(iota n).length=n:=by simp[iota]
theorem ao5(n:Nat):iota (n+1)=iota n++[(n:Int)]:=by simp[iota,List.range_succ]
theorem aar(k op:Int)(x y:aF)(rows:ak)(h:rows.length≤1048576):M.jB k op x y rows=some (k,op,x,y,encI (iota rows.length)):=by
 obtain⟨n,hn⟩:∃n,n=rows.length:=⟨_,rfl⟩
 simp only[M.jB,M.Ej]
 rw[←hn] at h⊢
 have hloop:=jC (b:=M.pF)
  (t:=if n=0 then .inl ((n:Int),0,0,0,[],[],k,op,x,y) else .inr ((n:Int),(n:Int),0,0,[],[],k,op,x,y,encI (iota n)))
  (fun j=>if j=0 then .inl ((n:Int),0,0,0,[],[],k,op,x,y) else .inr ((n:Int),(j:Int),0,0,[],[],k,op,x,y,encI (iota j))) n
  (by
   intro j hj
   rw[if_neg (show¬j+1=0 by omega),ao5]
   by_cases h0:j=0
   ·subst h0
    rw[if_pos rfl]
    simp only[M.pF,M.mJ]
    rw[decide_eq_true (by omega),cond_true]
    rfl
   ·rw[if_neg h0]
    simp only[M.pF,M.mJ,dw,KW,List.length_singleton]
    rw[decide_eq_true (by omega),cond_true,eY (by omega),cond_true,eY (by omega),cond_true,aP (by omega) (by omega)]
    simp[encI])
  (by
   by_cases h0:n=0
   ·simp only[if_pos h0]
    simp only[M.pF,M.mJ]
    rw[decide_eq_false (by omega),cond_false]
   ·simp only[if_neg h0]
    simp only[M.pF,M.mJ]
    rw[decide_eq_false (by omega),cond_false]) 0 (Nat.zero_le _)
 rw[if_pos rfl] at hloop
 rw[M.Cm,hloop,ah]
 by_cases h0:n=0
 ·rw[if_pos h0,h0]
  rfl
 ·rw[if_neg h0]
  simp only[xZ,letE,GU,cond_true]
def Wr(toks:List Tk)(sp:ak)(N:Nat)(out:List Tk)(r:Option (ak×ak×Bool)):Prop:=
 ∃sp',r=some (kF (toks++out),sp',false)∧aB sp'=true∧sp'.length≤sp.length+N
def PT(u:Tn):Prop:=∀(w:Bool) (f:Nat) (p:Ps) (toks:List Tk) (sp:ak),5 * u.size≤f→lu p=true→aB sp=true→toks.length+16 * u.size≤900000000→sp.length+u.size≤900000000→u.size≤1048576→
 Wr toks sp u.size (sF u p) (M.pU f u.kind u.op u.text u.other (gW w u.kids) p.level p.kW p.o7 p.o8 p.jX (kF toks) sp false)
theorem anM{u:Tn}(h:u.size≤1048576)(w:Bool):(gW w u.kids).length≤1048576:=by
 have h1:=u.SX
 have h2:=lQ u.kids
 rw[jm]
 omega
theorem tZ(k:Int):([[D.int .i64 k,D.str (spell k),D.int .i64 0]]:ak)=kF [tok k]:=rfl
theorem azn{u:Tn}(hP:PT u){w:Bool}{f:Nat}{p:Ps}{toks:List Tk}{sp:ak}(hf:5 * u.size+1≤f)(hp:lu p=true)(hs:aB sp=true)(ht:toks.length+16 * u.size+1≤900000000)(hl:sp.length+u.size≤900000000)(hu:u.size≤1048576):
  Wr toks sp u.size (Uj u p) (M.sZ f u.kind u.op u.text u.other (gW w u.kids) p.level p.kW p.o7 p.o8 p.jX (kF toks) sp false):=by
 obtain⟨g,rfl⟩:∃g,f=g+1:=⟨f - 1,by omega⟩
 have hz:=u.size_pos
 have hb:=nV u .top
 rw[M.Tz]
 simp only[M.pJ,aar u.kind u.op u.text u.other _ (anM hu w),ah,(aap u.kind u.op u.text u.other _ p).1,cond_false,Bool.not_not,Uj]
 cases fits u.kind u.op p with
 |true=>
  obtain⟨sp',h1,h2,h3⟩:=hP w g p toks sp (by omega) hp hs (by omega) hl hu
  simp only[cond_true,dN,hs,h1,ah,h2]
  exact⟨sp',rfl,h2,h3⟩
 |false=>
  obtain⟨sp',h1,h2,h3⟩:=hP w g .top (toks++[tok 32]) sp (by omega) rfl hs (by rw[List.length_append,List.length_singleton];omega) hl hu
  have e1:=(kQ 32 (by constructor<;>decide)).1
  have e2:=(kQ 33 (by constructor<;>decide)).1
  have p1:=ER [tok 32] toks sp false hs (by simp;omega)
  have p2:=ER [tok 33] (toks++[tok 32]++sF u .top) sp' false h2 (by simp only[List.length_append,List.length_singleton];omega)
  simp only[Ps.top] at h1 p2
  simp only[cond_false,e1,e2,AP.1,ah,tZ,dN,hs,cond_true,p1,h1,h2,p2]
  refine⟨sp', ?_,h2,h3⟩
  simp[Ps.top]
theorem kR(w:Bool)(u:Tn):dn .i64 (u.row w) 0=some u.kind∧dn .i64 (u.row w) 1=some u.op∧cStr (u.row w) 2=some u.text∧cStr (u.row w) 3=some u.other∧BK 5 (u.row w) 4=some (gW w u.kids):=by
 cases u
 exact⟨rfl,rfl,rfl,rfl,rfl⟩
theorem JJ(w:Bool){ks:List Tn}{j:Nat}{u:Tn}(hj:ks[j]? =some u):idx (gW w ks) (j:Int)=some (u.row w):=by rw[fG,OZ];simp[hj]
section
variable {k op:Int} {x y:aF} {ks:List Tn} (ih:∀u,u∈ks→PT u)
include ih
theorem KX{w:Bool}{f:Nat}{p:Ps}{toks:List Tk}{sp:ak}{j:Nat}{u:Tn}(hj:ks[j]? =some u)(hf:5 * u.size+2≤f)(hp:lu p=true)(hlv:lvl k op≠0)(hs:aB sp=true)(ht:toks.length+16 * u.size+1≤900000000)(hl:sp.length+u.size≤900000000)(hu:sizes ks≤1048575):
  Wr toks sp u.size (qY k op ks.length p j u) (M.jW f k op x y (gW w ks) (j:Int) p.level p.kW p.o7 p.o8 p.jX (kF toks) sp false):=by
 obtain⟨g,rfl⟩:∃g,f=g+1:=⟨f - 1,by omega⟩
 have hkl:=lQ ks
 have hju:=(List.getElem?_eq_some_iff.1 hj).1
 have hus:=jD (List.mem_of_getElem? hj)
 have hg:=JJ w hj
 obtain⟨c0,c1,c2,c3,c4⟩:=kR w u
 have hn:=aar k op x y (gW w ks) (by rw[jm];omega)
 rw[jm] at hn
 have hkp:=Sl k op x y (encI (iota ks.length)) j p (by rw[dw,KW];omega)
 rw[dw,KW] at hkp
 have hq:=sG (n:=ks.length) (j:=j) hp hju hlv
 have e1:=ih u (List.mem_of_getElem? hj)
 rw[M.Vd]
 simp only[M.qF,hn,ah,hg,c0,c1,c2,c3,c4,hkp,Ps.yE,Y9,dN,hs,cond_true,qY]
 cases htg:nI k j with
 |true=>
  obtain⟨sp',h1,h2,h3⟩:=e1 w g (dZ k op ks.length j p) toks sp (by omega) hq hs (by omega) hl (by omega)
  simp only[cond_true,Bool.true_or,h1,ah,dN,h2]
  exact⟨sp',rfl,h2,h3⟩
 |false=>
  obtain⟨sp',h1,h2,h3⟩:=azn e1 (w:=w) (f:=g) (p:=dZ k op ks.length j p) (toks:=toks) (sp:=sp) (by omega) hq hs ht hl (by omega)
  unfold Uj at h1
  simp only[cond_false,Bool.false_or,h1,ah,dN,h2,cond_true]
  exact⟨sp',rfl,h2,h3⟩
theorem Yh{w:Bool}{f:Nat}{p:Ps}{shut:Int}(hf:5 * sizes ks+2≤f)(hp:lu p=true)(hlv:lvl k op≠0)(hu:sizes ks≤1048575):∀(d j:Nat) (toks:List Tk) (sp:ak),j+d=ks.length→aB sp=true→toks.length+16 * sizes (ks.drop j)+2≤900000000→sp.length+sizes (ks.drop j)≤900000000→
  ∃sp',M.jR (M.jW f) shut (ks.length:Int) k op x y (gW w ks) p.level p.kW p.o7 p.o8 p.jX ((j:Int),false,kF toks,sp)=some ((ks.length:Int),false,kF (toks++BH (Nat.beq j 0) ((jg k op ks.length p ks 0).drop j)),sp')∧aB sp'=true∧sp'.length≤sp.length+sizes (ks.drop j)
 |0,j,toks,sp,hj,hs,ht,hl=>by
  have hjn:j=ks.length:=by omega
  refine⟨sp, ?_,hs,by omega⟩
  have hd:(jg k op ks.length p ks 0).drop j=[]:=List.drop_eq_nil_iff.2 (by rw[EC];omega)
  rw[hd,BH,List.append_nil,M.jR]
  apply iW
  simp only[M.l9,M.lZ]
  rw[decide_eq_false (by omega),cond_false,hjn]
 |d+1,j,toks,sp,hj,hs,ht,hl=>by
  have hlt:j<ks.length:=by omega
  have hkl:=lQ ks
  obtain⟨u,hu'⟩:∃u,ks[j]? =some u:=⟨ks[j],by simp[hlt]⟩
  have hd1:ks.drop j=u::ks.drop (j+1):=by
   rw[List.drop_eq_getElem_cons hlt]
   rw[List.getElem?_eq_getElem hlt] at hu'
   rw[Option.some.inj hu']
  have hus:=jD (List.mem_of_getElem? hu')
  have hz:=u.size_pos
  have hb:=Ja (k:=k) (op:=op) (n:=ks.length) (p:=p) (j:=j) (nV u)
  have hdl:j<(jg k op ks.length p ks 0).length:=by rw[EC];exact hlt
  have hkd:(jg k op ks.length p ks 0).drop j=qY k op ks.length p j u::(jg k op ks.length p ks 0).drop (j+1):=by
   have hg:=aer k op ks.length p (i:=0) hu'
   rw[Nat.zero_add,List.getElem?_eq_getElem hdl] at hg
   rw[List.drop_eq_getElem_cons hdl,Option.some.inj hg]
  rw[hd1,sizes] at ht hl⊢
  rw[hkd]
  have hw:IntKind.i64.wrap ((j:Int)+1)=((j+1:Nat):Int):=by rw[aP (by omega) (by omega)];omega
  by_cases h0:j=0
  ·subst h0
   obtain⟨sp1,a1,a2,a3⟩:=KX ih (w:=w) (f:=f) (p:=p) (toks:=toks) (sp:=sp) (x:=x) (y:=y) (op:=op) (k:=k) hu' (by omega) hp hlv hs (by omega) (by omega) hu
   obtain⟨sp2,b1,b2,b3⟩:=Yh hf hp hlv hu d (0+1) (toks++qY k op ks.length p 0 u) sp1 (by omega) a2 (by rw[List.length_append];omega) (by omega)
   have hstep:M.l9 (M.jW f) shut (ks.length:Int) k op x y (gW w ks) p.level p.kW p.o7 p.o8 p.jX (((0:Nat):Int),false,kF toks,sp)=some (.inl (((0+1:Nat):Int),false,kF (toks++qY k op ks.length p 0 u),sp1)):=by
    simp only[M.l9,M.lZ,dN,hs,cond_true]
    rw[decide_eq_true (by omega),cond_true,decide_eq_false (by omega),cond_false,a1,ah,hw]
   refine⟨sp2, ?_,b2,by omega⟩
   rw[M.jR,jU hstep]
   rw[M.jR] at b1
   have z0:Nat.beq 0 0=true:=rfl
   have z1:Nat.beq (0+1) 0=false:=rfl
   rw[b1,z0,z1,BH,cond_true]
   simp
  ·have e1:=(kQ 36 (by constructor<;>decide)).1
   have p1:=ER [tok 36] toks sp false hs (by simp;omega)
   obtain⟨sp1,a1,a2,a3⟩:=KX ih (w:=w) (f:=f) (p:=p) (toks:=toks++[tok 36]) (sp:=sp) (x:=x) (y:=y) (op:=op) (k:=k) hu' (by omega) hp hlv hs (by rw[List.length_append,List.length_singleton];omega) (by omega) hu
   obtain⟨sp2,b1,b2,b3⟩:=Yh hf hp hlv hu d (j+1) (toks++[tok 36]++qY k op ks.length p j u) sp1 (by omega) a2 (by rw[List.length_append,List.length_append,List.length_singleton];omega) (by omega)
   have hstep:M.l9 (M.jW f) shut (ks.length:Int) k op x y (gW w ks) p.level p.kW p.o7 p.o8 p.jX ((j:Int),false,kF toks,sp)=some (.inl (((j+1:Nat):Int),false,kF (toks++[tok 36]++qY k op ks.length p j u),sp1)):=by
    simp only[M.l9,M.lZ,e1,ah,tZ,dN,hs,cond_true,p1]
    rw[decide_eq_true (by omega),cond_true,decide_eq_true (by omega),cond_true,a1,ah,hw]
   refine⟨sp2, ?_,b2,by omega⟩
   rw[M.jR,jU hstep]
   rw[M.jR] at b1
   rw[b1]
   have hb0:Nat.beq j 0=false:=by cases j with
    |zero=>exact absurd rfl h0
    |succ j=>rfl
   have hb1:Nat.beq (j+1) 0=false:=rfl
   rw[hb0,hb1,BH,cond_false]
   simp
theorem afJ{w:Bool}{f:Nat}{p:Ps}{toks:List Tk}{sp:ak}{open' shut:Int}(ho:I64 open')(hsh:I64 shut)(hf:5 * sizes ks+3≤f)(hp:lu p=true)(hlv:lvl k op≠0)(hs:aB sp=true)(ht:toks.length+16 * sizes ks+3≤900000000)(hl:sp.length+sizes ks≤900000000)(hu:sizes ks≤1048575):
  Wr toks sp (sizes ks) (tok open'::(BH true (jg k op ks.length p ks 0)++[tok shut])) (M.pR f k op x y (gW w ks) open' shut p.level p.kW p.o7 p.o8 p.jX (kF toks) sp false):=by
 obtain⟨g,rfl⟩:∃g,f=g+1:=⟨f - 1,by omega⟩
 have hkl:=lQ ks
 have e1:=(kQ open' ho).1
 have e2:=(kQ shut hsh).1
 have p1:=ER [tok open'] toks sp false hs (by simp;omega)
 obtain⟨sp1,a1,a2,a3⟩:=Yh ih (x:=x) (y:=y) (op:=op) (k:=k) (w:=w) (f:=g) (p:=p) (shut:=shut) (by omega) hp hlv hu ks.length 0 (toks++[tok open']) sp (by omega) hs (by rw[List.length_append,List.length_singleton,List.drop_zero];omega) (by rw[List.drop_zero];omega)
 rw[List.drop_zero] at a3
 rw[List.drop_zero,qH] at a1
 have hlen:(BH true (jg k op ks.length p ks 0)).length≤9 * sizes ks:=by
  have h1:=Sr (jg k op ks.length p ks 0) true
  have h2:=Td (k:=k) (op:=op) (n:=ks.length) (p:=p) (ts:=ks) (j:=0) fun u _=>nV u
  rw[EC] at h1
  omega
 have p2:=ER [tok shut] (toks++[tok open']++BH (Nat.beq 0 0) (jg k op ks.length p ks 0)) sp1 false a2 (by simp only[List.length_append,List.length_singleton];have:Nat.beq 0 0=true:=rfl;rw[this];omega)
 rw[M.Tt]
 simp only[M.pG,e1,e2,ah,tZ,dN,hs,cond_true,p1,jm,a1,a2,p2]
 refine⟨sp1, ?_,a2,a3⟩
 simp
end
theorem LC(k op:Int)(n:Nat)(p:Ps)(u:Tn):jg k op n p [u] 0=[qY k op n p 0 u]:=by rw[jg,jg];rfl
theorem Sv(k op:Int)(n:Nat)(p:Ps)(u v:Tn):jg k op n p [u,v] 0=[qY k op n p 0 u,qY k op n p 1 v]:=by rw[jg,jg,jg];rfl
theorem asK(k op:Int)(n:Nat)(p:Ps)(u v z:Tn):jg k op n p [u,v,z] 0=[qY k op n p 0 u,qY k op n p 1 v,qY k op n p 2 z]:=by rw[jg,jg,jg,jg];rfl
theorem Zb(u:Tn):sizes [u]=u.size:=by simp[sizes]
theorem sz2(u v:Tn):sizes [u,v]=u.size+v.size:=by simp[sizes]
theorem sz3(u v z:Tn):sizes [u,v,z]=u.size+(v.size+z.size):=by simp[sizes]
theorem Gz{α:Type}{l:List α}(h:l.length=2):∃a b,l=[a,b]:=by
 match l,h with
 |[a,b],_=>exact⟨a,b,rfl⟩
theorem Pv{α:Type}{l:List α}(h:l.length=3):∃a b c,l=[a,b,c]:=by
 match l,h with
 |[a,b,c],_=>exact⟨a,b,c,rfl⟩
theorem aas{op:Int}(h:vS op≠0):I64 op:=by
 by_cases hr:0≤op∧op≤99
 ·constructor<;>omega
 ·exfalso
  apply h
  have e:∀z:Int,0≤z→z≤99→(op==z)=false:=fun z h1 h2=>by rw[beq_eq_false_iff_ne];omega
  simp only[vS,e 44 (by decide) (by decide),e 45 (by decide) (by decide),e 67 (by decide) (by decide),e 46 (by decide) (by decide),e 63 (by decide) (by decide),e 48 (by decide) (by decide),e 47 (by decide) (by decide),e 50 (by decide) (by decide),e 62 (by decide) (by decide),e 49 (by decide) (by decide),e 99 (by decide) (by decide),e 55 (by decide) (by decide),e 56 (by decide) (by decide),e 57 (by decide) (by decide),e 58 (by decide) (by decide),e 59 (by decide) (by decide),e 60 (by decide) (by decide),Bool.or_false,cond_false]
theorem Qi:((1:Nat):Int)=1:=rfl
theorem ao6:((2:Nat):Int)=2:=rfl
section
variable {k op:Int} {x y:aF} {ks:List Tn} (ih:∀u,u∈ks→PT u)
include ih
theorem azo{w:Bool}{f:Nat}{p:Ps}{toks:List Tk}{sp:ak}(hc:Cnt k op y ks.length)(hk:k=6∨k=9∨k=10∨k=11∨k=12∨k=13∨k=14∨k=15)(hf:5 * sizes ks+4≤f)(hp:lu p=true)(hs:aB sp=true)(ht:toks.length+16 * sizes ks+3≤900000000)(hl:sp.length+sizes ks≤900000000)(hu:sizes ks≤1048575):
  Wr toks sp (sizes ks) (CX k op ks.length x (jg k op ks.length p ks 0)) (M.nT f k op x y (gW w ks) p.level p.kW p.o7 p.o8 p.jX (kF toks) sp false):=by
 obtain⟨g,rfl⟩:∃g,f=g+1:=⟨f - 1,by omega⟩
 have hlv:lvl k op≠0:=by have:=Og (y:=y) (n:=ks.length) (k:=k) (op:=op) (by omega) hc;omega
 rw[M.O8]
 rcases hk with rfl|rfl|rfl|rfl|rfl|rfl|rfl|rfl
 ·obtain⟨u,rfl⟩:=List.length_eq_one_iff.1 (hc.one (by omega))
  rw[Zb] at *
  have e1:=(kQ 68 (by constructor<;>decide)).1
  have p1:=ER [tok 68] toks sp false hs (by simp;omega)
  obtain⟨sp1,a1,a2,a3⟩:=KX ih (w:=w) (f:=g) (p:=p) (toks:=toks++[tok 68]) (sp:=sp) (x:=x) (y:=y) (op:=op) (k:=6) (j:=0) (u:=u) rfl (by omega) hp hlv hs (by simp only[List.length_append,List.length_cons,List.length_nil,Nat.zero_add] at *;omega) hl (by rw[Zb];exact hu)
  rw[qH] at a1
  simp only[M.dY,Int.reduceBEq,cond_true,cond_false,e1,ah,tZ,dN,hs,p1,a1,a2]
  refine⟨sp1, ?_,a2,a3⟩
  rw[LC]
  simp[CX,xQ]
 ·obtain⟨u,rfl⟩:=List.length_eq_one_iff.1 (hc.one (by omega))
  rw[Zb] at *
  have e1:=(kQ op (by rcases hc.stp (by omega) with rfl|rfl<;>constructor<;>decide)).1
  have p1:=ER [tok op] toks sp false hs (by simp;omega)
  obtain⟨sp1,a1,a2,a3⟩:=KX ih (w:=w) (f:=g) (p:=p) (toks:=toks++[tok op]) (sp:=sp) (x:=x) (y:=y) (op:=op) (k:=9) (j:=0) (u:=u) rfl (by omega) hp hlv hs (by simp only[List.length_append,List.length_cons,List.length_nil,Nat.zero_add] at *;omega) hl (by rw[Zb];exact hu)
  rw[qH] at a1
  simp only[M.dY,Int.reduceBEq,cond_true,cond_false,e1,ah,tZ,dN,hs,p1,a1,a2]
  refine⟨sp1, ?_,a2,a3⟩
  rw[LC]
  simp[CX,xQ]
 ·obtain⟨u,rfl⟩:=List.length_eq_one_iff.1 (hc.one (by omega))
  rw[Zb] at *
  have hb:=Ja (k:=10) (op:=op) (n:=[u].length) (p:=p) (j:=0) (nV u)
  have e1:=(kQ op (by rcases hc.stp (by omega) with rfl|rfl<;>constructor<;>decide)).1
  obtain⟨sp1,a1,a2,a3⟩:=KX ih (w:=w) (f:=g) (p:=p) (toks:=toks) (sp:=sp) (x:=x) (y:=y) (op:=op) (k:=10) (j:=0) (u:=u) rfl (by omega) hp hlv hs (by omega) hl (by rw[Zb];exact hu)
  rw[qH] at a1
  have p1:=ER [tok op] (toks++qY 10 op [u].length p 0 u) sp1 false a2 (by simp only[List.length_append,List.length_cons,List.length_nil,Nat.zero_add] at *;omega)
  simp only[M.dY,Int.reduceBEq,cond_true,cond_false,e1,ah,tZ,dN,hs,p1,a1,a2]
  refine⟨sp1, ?_,a2,a3⟩
  rw[LC]
  simp[CX,xQ]
 ·obtain⟨u,rfl⟩:=List.length_eq_one_iff.1 (hc.one (by omega))
  rw[Zb] at *
  have e1:=(kQ op (by rcases hc.una (by omega) with rfl|rfl|rfl<;>constructor<;>decide)).1
  have p1:=ER [tok op] toks sp false hs (by simp;omega)
  obtain⟨sp1,a1,a2,a3⟩:=KX ih (w:=w) (f:=g) (p:=p) (toks:=toks++[tok op]) (sp:=sp) (x:=x) (y:=y) (op:=op) (k:=11) (j:=0) (u:=u) rfl (by omega) hp hlv hs (by simp only[List.length_append,List.length_cons,List.length_nil,Nat.zero_add] at *;omega) hl (by rw[Zb];exact hu)
  rw[qH] at a1
  simp only[M.dY,Int.reduceBEq,cond_true,cond_false,e1,ah,tZ,dN,hs,p1,a1,a2]
  refine⟨sp1, ?_,a2,a3⟩
  rw[LC]
  simp[CX,xQ]
 ·obtain⟨u,v,rfl⟩:=Gz (hc.two (by omega))
  rw[sz2] at *
  have hb:=Ja (k:=12) (op:=op) (n:=[u,v].length) (p:=p) (j:=0) (nV u)
  obtain⟨sp1,a1,a2,a3⟩:=KX ih (w:=w) (f:=g) (p:=p) (toks:=toks) (sp:=sp) (x:=x) (y:=y) (op:=op) (k:=12) (j:=0) (u:=u) rfl (by omega) hp hlv hs (by omega) (by omega) (by rw[sz2];exact hu)
  rw[qH] at a1
  by_cases h99:op=99
  ·have e99:(op !=99)=false:=by simp[h99]
   obtain⟨sp2,b1,b2,b3⟩:=KX ih (w:=w) (f:=g) (p:=p) (toks:=toks++qY 12 op [u,v].length p 0 u) (sp:=sp1) (x:=x) (y:=y) (op:=op) (k:=12) (j:=1) (u:=v) rfl (by omega) hp hlv a2 (by simp only[List.length_append,List.length_cons,List.length_nil,Nat.zero_add] at *;omega) (by omega) (by rw[sz2];exact hu)
   rw[Qi] at b1
   simp only[M.dY,Int.reduceBEq,cond_true,cond_false,e99,ah,tZ,dN,hs,a1,a2,b1,b2]
   refine⟨sp2, ?_,b2,by omega⟩
   rw[Sv]
   simp[CX,xQ,h99]
  ·have e99:(op !=99)=true:=by simpa using h99
   have e98:(op==99)=false:=by simpa using h99
   have e1:=(kQ op (aas (hc.bin rfl).1)).1
   have p1:=ER [tok op] (toks++qY 12 op [u,v].length p 0 u) sp1 false a2 (by simp only[List.length_append,List.length_cons,List.length_nil,Nat.zero_add] at *;omega)
   obtain⟨sp2,b1,b2,b3⟩:=KX ih (w:=w) (f:=g) (p:=p) (toks:=toks++qY 12 op [u,v].length p 0 u++[tok op]) (sp:=sp1) (x:=x) (y:=y) (op:=op) (k:=12) (j:=1) (u:=v) rfl (by omega) hp hlv a2 (by simp only[List.length_append,List.length_cons,List.length_nil,Nat.zero_add] at *;omega) (by omega) (by rw[sz2];exact hu)
   rw[Qi] at b1
   simp only[M.dY,Int.reduceBEq,cond_true,cond_false,e99,e1,p1,ah,tZ,dN,hs,a1,a2,b1,b2]
   refine⟨sp2, ?_,b2,by omega⟩
   rw[Sv]
   simp[CX,xQ,e98]
 ·have e1:=(kQ 24 (by constructor<;>decide)).1
  have hr:∀z:aF,([[D.int .i64 24,D.str (spell 24),D.int .i64 0],[D.int .i64 6,D.str z,D.int .i64 0]]:ak)=kF [tok 24,⟨6,z,0⟩]:=fun z=>rfl
  cases hm:Nat.blt 1 ks.length with
  |true=>
   obtain⟨sp1,a1,a2,a3⟩:=afJ ih (w:=w) (f:=g) (p:=p) (toks:=toks) (sp:=sp) (x:=x) (y:=y) (op:=op) (k:=13) (open':=32) (shut:=33) (by constructor<;>decide) (by constructor<;>decide) (by omega) hp hlv hs (by omega) hl hu
   have hlen:(BH true (jg 13 op ks.length p ks 0)).length≤9 * sizes ks:=by
    have h1:=Sr (jg 13 op ks.length p ks 0) true
    have h2:=Td (k:=13) (op:=op) (n:=ks.length) (p:=p) (ts:=ks) (j:=0) fun u _=>nV u
    rw[EC] at h1
    omega
   have p1:=ER [tok 24,⟨6,x,0⟩] (toks++tok 32::(BH true (jg 13 op ks.length p ks 0)++[tok 33])) sp1 false a2 (by simp only[List.length_append,List.length_cons,List.length_nil,Nat.zero_add] at *;omega)
   simp only[M.dY,Int.reduceBEq,cond_true,cond_false,jm,many,hm,e1,p1,ah,hr,dN,hs,a1,a2]
   refine⟨sp1, ?_,a2,a3⟩
   simp[CX,hm]
  |false=>
   have h1:ks.length=1:=by
    have h2:=hc.some_ (by omega)
    have h3:¬1<ks.length:=by rw[←Nat.blt_eq,hm];simp
    omega
   obtain⟨u,rfl⟩:=List.length_eq_one_iff.1 h1
   rw[Zb] at *
   have hb:=Ja (k:=13) (op:=op) (n:=[u].length) (p:=p) (j:=0) (nV u)
   obtain⟨sp1,a1,a2,a3⟩:=KX ih (w:=w) (f:=g) (p:=p) (toks:=toks) (sp:=sp) (x:=x) (y:=y) (op:=op) (k:=13) (j:=0) (u:=u) rfl (by omega) hp hlv hs (by omega) hl (by rw[Zb];exact hu)
   rw[qH] at a1
   have p1:=ER [tok 24,⟨6,x,0⟩] (toks++qY 13 op [u].length p 0 u) sp1 false a2 (by simp only[List.length_append,List.length_cons,List.length_nil,Nat.zero_add] at *;omega)
   simp only[M.dY,Int.reduceBEq,cond_true,cond_false,jm,many,hm,e1,p1,ah,hr,dN,hs,a1,a2]
   refine⟨sp1, ?_,a2,a3⟩
   rw[LC]
   simp[CX,xQ,show Nat.blt 1 1=false from rfl]
 ·obtain⟨u,v,z,rfl⟩:=Pv (hc.three rfl)
  rw[sz3] at *
  have hb:=Ja (k:=14) (op:=op) (n:=[u,v,z].length) (p:=p) (j:=0) (nV u)
  have hb2:=Ja (k:=14) (op:=op) (n:=[u,v,z].length) (p:=p) (j:=1) (nV v)
  have e1:=(kQ 65 (by constructor<;>decide)).1
  have e2:=(kQ 66 (by constructor<;>decide)).1
  obtain⟨sp1,a1,a2,a3⟩:=KX ih (w:=w) (f:=g) (p:=p) (toks:=toks) (sp:=sp) (x:=x) (y:=y) (op:=op) (k:=14) (j:=0) (u:=u) rfl (by omega) hp hlv hs (by omega) (by omega) (by rw[sz3];exact hu)
  rw[qH] at a1
  have p1:=ER [tok 65] (toks++qY 14 op [u,v,z].length p 0 u) sp1 false a2 (by simp only[List.length_append,List.length_cons,List.length_nil,Nat.zero_add] at *;omega)
  obtain⟨sp2,b1,b2,b3⟩:=KX ih (w:=w) (f:=g) (p:=p) (toks:=toks++qY 14 op [u,v,z].length p 0 u++[tok 65]) (sp:=sp1) (x:=x) (y:=y) (op:=op) (k:=14) (j:=1) (u:=v) rfl (by omega) hp hlv a2 (by simp only[List.length_append,List.length_cons,List.length_nil,Nat.zero_add] at *;omega) (by omega) (by rw[sz3];exact hu)
  rw[Qi] at b1
  have p2:=ER [tok 66] (toks++qY 14 op [u,v,z].length p 0 u++[tok 65]++qY 14 op [u,v,z].length p 1 v) sp2 false b2 (by simp only[List.length_append,List.length_cons,List.length_nil,Nat.zero_add] at *;omega)
  obtain⟨sp3,c1,c2,c3⟩:=KX ih (w:=w) (f:=g) (p:=p) (toks:=toks++qY 14 op [u,v,z].length p 0 u++[tok 65]++qY 14 op [u,v,z].length p 1 v++[tok 66]) (sp:=sp2) (x:=x) (y:=y) (op:=op) (k:=14) (j:=2) (u:=z) rfl (by omega) hp hlv b2 (by simp only[List.length_append,List.length_cons,List.length_nil,Nat.zero_add] at *;omega) (by omega) (by rw[sz3];exact hu)
  rw[ao6] at c1
  simp only[M.dY,Int.reduceBEq,cond_true,cond_false,e1,e2,p1,p2,ah,tZ,dN,hs,a1,a2,b1,b2,c1,c2]
  refine⟨sp3, ?_,c2,by omega⟩
  rw[asK]
  simp[CX,xQ]
 ·obtain⟨u,v,rfl⟩:=Gz (hc.two (by omega))
  rw[sz2] at *
  have hb:=Ja (k:=15) (op:=op) (n:=[u,v].length) (p:=p) (j:=0) (nV u)
  obtain⟨sp1,a1,a2,a3⟩:=KX ih (w:=w) (f:=g) (p:=p) (toks:=toks) (sp:=sp) (x:=x) (y:=y) (op:=op) (k:=15) (j:=0) (u:=u) rfl (by omega) hp hlv hs (by omega) (by omega) (by rw[sz2];exact hu)
  rw[qH] at a1
  by_cases h99:op=99
  ·have e99:(op !=99)=false:=by simp[h99]
   obtain⟨sp2,b1,b2,b3⟩:=KX ih (w:=w) (f:=g) (p:=p) (toks:=toks++qY 15 op [u,v].length p 0 u) (sp:=sp1) (x:=x) (y:=y) (op:=op) (k:=15) (j:=1) (u:=v) rfl (by omega) hp hlv a2 (by simp only[List.length_append,List.length_cons,List.length_nil,Nat.zero_add] at *;omega) (by omega) (by rw[sz2];exact hu)
   rw[Qi] at b1
   simp only[M.dY,Int.reduceBEq,cond_true,cond_false,e99,ah,tZ,dN,hs,a1,a2,b1,b2]
   refine⟨sp2, ?_,b2,by omega⟩
   rw[Sv]
   simp[CX,xQ,h99]
  ·have e99:(op !=99)=true:=by simpa using h99
   have e98:(op==99)=false:=by simpa using h99
   have e1:=(kQ op (by rcases hc.asg rfl with rfl|h<;>constructor<;>omega)).1
   have p1:=ER [tok op] (toks++qY 15 op [u,v].length p 0 u) sp1 false a2 (by simp only[List.length_append,List.length_cons,List.length_nil,Nat.zero_add] at *;omega)
   obtain⟨sp2,b1,b2,b3⟩:=KX ih (w:=w) (f:=g) (p:=p) (toks:=toks++qY 15 op [u,v].length p 0 u++[tok op]) (sp:=sp1) (x:=x) (y:=y) (op:=op) (k:=15) (j:=1) (u:=v) rfl (by omega) hp hlv a2 (by simp only[List.length_append,List.length_cons,List.length_nil,Nat.zero_add] at *;omega) (by omega) (by rw[sz2];exact hu)
   rw[Qi] at b1
   simp only[M.dY,Int.reduceBEq,cond_true,cond_false,e99,e1,p1,ah,tZ,dN,hs,a1,a2,b1,b2]
   refine⟨sp2, ?_,b2,by omega⟩
   rw[Sv]
   simp[CX,xQ,e98]
end
theorem anN(sp:ak)(a b:Int)(hs:aB sp=true):aB (sp++[[D.int .i64 a,D.int .i64 b]])=true:=by
 simp only[aB,List.all_append,Bool.and_eq_true] at hs⊢
 exact⟨hs,rfl⟩
theorem azp(t:Tn):ED t→RX t→PT t:=by
 refine Tn.ind (P:=fun t=>ED t→RX t→PT t) ?_ t
 intro k op x y ks ih hok he w f p toks sp hf hp hs ht hl hu
 have hc:=Lu hok
 have ih':∀u,u∈ks→PT u:=fun u hm=>by
  obtain⟨i,hi⟩:=List.mem_iff_getElem?.1 hm
  obtain⟨h1,h2⟩:=Xm hok he hi
  exact ih u hm h2 h1
 have he':1≤k∧k≤15:=he
 have hlv:lvl k op≠0:=by have:=Og he' hc;omega
 rw[Tn.size] at hf ht hl hu⊢
 obtain⟨g,rfl⟩:∃g,f=g+1:=⟨f - 1,by omega⟩
 simp only[Tn.kind,Tn.op,Tn.text,Tn.other,Tn.kids]
 rw[M.Tv,sF]
 have done:∀(out:List Tk) (sp':ak) (c:Option (ak×ak×Bool)),aB sp'=true→sp'.length≤sp.length+sizes ks→c=some (kF (toks++out),sp'++[[D.int .i64 (toks.length:Int),D.int .i64 ((toks++out).length:Int)]],false)→Wr toks sp (sizes ks+1) out c:=by
  intro out sp' c h1 h2 h3
  exact⟨_,h3,anN _ _ _ h1,by rw[List.length_append,List.length_singleton];omega⟩
 have leaf:∀(z:Int) (h:CX k op ks.length x (jg k op ks.length p ks 0)=([⟨z,x,0⟩]:List Tk)),Wr toks sp (sizes ks+1) (CX k op ks.length x (jg k op ks.length p ks 0)) (some (kF (toks++([⟨z,x,0⟩]:List Tk)),sp++[[D.int .i64 (toks.length:Int),D.int .i64 ((toks++([⟨z,x,0⟩]:List Tk)).length:Int)]],false)):=by
  intro z h
  rw[h]
  exact done _ sp _ hs (by omega) rfl
 have hrow:∀z:Int,([[D.int .i64 z,D.str x,D.int .i64 0]]:ak)=kF [⟨z,x,0⟩]:=fun z=>rfl
 have hput:∀z:Int,M.bZ (kF [⟨z,x,0⟩]) (kF toks) sp false=some (kF (toks++[⟨z,x,0⟩]),sp,false):=fun z=>ER [⟨z,x,0⟩] toks sp false hs (by simp;omega)
 have sps:∀(s:ak) (a b:Int),aB s=true→aB (s++[[D.int .i64 a,D.int .i64 b]])=true:=anN
 have hk:k=1∨k=2∨k=3∨k=4∨k=5∨k=7∨k=8∨(k=6∨k=9∨k=10∨k=11∨k=12∨k=13∨k=14∨k=15):=by
  omega
 rcases hk with rfl|rfl|rfl|rfl|rfl|rfl|rfl|hk
 ·simp only[M.iE,Int.reduceBEq,cond_true,cond_false,hrow,hput,ah,dN,hs,iw,List.length_singleton,sps sp _ _ hs]
  rw[eY (by omega),cond_true,eY (by omega),cond_true]
  exact leaf 6 rfl
 ·simp only[M.iE,Int.reduceBEq,cond_true,cond_false,hrow,hput,ah,dN,hs,iw,List.length_singleton,sps sp _ _ hs]
  rw[eY (by omega),cond_true,eY (by omega),cond_true]
  exact leaf 3 rfl
 ·simp only[M.iE,Int.reduceBEq,cond_true,cond_false,hrow,hput,ah,dN,hs,iw,List.length_singleton,sps sp _ _ hs]
  rw[eY (by omega),cond_true,eY (by omega),cond_true]
  exact leaf 4 rfl
 ·simp only[M.iE,Int.reduceBEq,cond_true,cond_false,hrow,hput,ah,dN,hs,iw,List.length_singleton,sps sp _ _ hs]
  rw[eY (by omega),cond_true,eY (by omega),cond_true]
  exact leaf 5 rfl
 ·obtain⟨sp1,a1,a2,a3⟩:=afJ ih' (w:=w) (f:=g) (p:=p) (toks:=toks++[⟨6,x,0⟩]) (sp:=sp) (x:=x) (y:=y) (op:=op) (k:=5) (open':=34) (shut:=35) (by constructor<;>decide) (by constructor<;>decide) (by omega) hp hlv hs (by rw[List.length_append,List.length_singleton];omega) (by omega) (by omega)
  simp only[M.iE,Int.reduceBEq,cond_true,cond_false,hrow,hput,ah,dN,hs,a1,a2,iw,List.length_singleton,sps sp1 _ _ a2]
  rw[eY (by omega),cond_true,eY (by omega),cond_true]
  have ha:CX 5 op ks.length x (jg 5 op ks.length p ks 0)=⟨6,x,0⟩::tok 34::(BH true (jg 5 op ks.length p ks 0)++[tok 35]):=rfl
  rw[ha]
  refine done _ sp1 _ a2 a3 ?_
  simp
 ·obtain⟨sp1,a1,a2,a3⟩:=afJ ih' (w:=w) (f:=g) (p:=p) (toks:=toks++[⟨7,x,0⟩]) (sp:=sp) (x:=x) (y:=y) (op:=op) (k:=7) (open':=32) (shut:=33) (by constructor<;>decide) (by constructor<;>decide) (by omega) hp hlv hs (by rw[List.length_append,List.length_singleton];omega) (by omega) (by omega)
  simp only[M.iE,Int.reduceBEq,cond_true,cond_false,hrow,hput,ah,dN,hs,a1,a2,iw,List.length_singleton,sps sp1 _ _ a2]
  rw[eY (by omega),cond_true,eY (by omega),cond_true]
  have ha:CX 7 op ks.length x (jg 7 op ks.length p ks 0)=⟨7,x,0⟩::tok 32::(BH true (jg 7 op ks.length p ks 0)++[tok 33]):=rfl
  rw[ha]
  refine done _ sp1 _ a2 a3 ?_
  simp
 ·obtain⟨sp1,a1,a2,a3⟩:=afJ ih' (w:=w) (f:=g) (p:=p) (toks:=toks++[⟨8,x,0⟩]) (sp:=sp) (x:=x) (y:=y) (op:=op) (k:=8) (open':=32) (shut:=33) (by constructor<;>decide) (by constructor<;>decide) (by omega) hp hlv hs (by rw[List.length_append,List.length_singleton];omega) (by omega) (by omega)
  simp only[M.iE,Int.reduceBEq,cond_true,cond_false,hrow,hput,ah,dN,hs,a1,a2,iw,List.length_singleton,sps sp1 _ _ a2]
  rw[eY (by omega),cond_true,eY (by omega),cond_true]
  have ha:CX 8 op ks.length x (jg 8 op ks.length p ks 0)=⟨8,x,0⟩::tok 32::(BH true (jg 8 op ks.length p ks 0)++[tok 33]):=rfl
  rw[ha]
  refine done _ sp1 _ a2 a3 ?_
  simp
 ·obtain⟨sp1,a1,a2,a3⟩:=azo ih' (w:=w) (f:=g) (p:=p) (toks:=toks) (sp:=sp) (x:=x) (y:=y) (op:=op) (k:=k) hc hk (by omega) hp hs (by omega) (by omega) (by omega)
  have n1:(k==1)=false:=by rw[beq_eq_false_iff_ne];omega
  have n2:(k==2)=false:=by rw[beq_eq_false_iff_ne];omega
  have n3:(k==3)=false:=by rw[beq_eq_false_iff_ne];omega
  have n4:(k==4)=false:=by rw[beq_eq_false_iff_ne];omega
  have n5:(k==5)=false:=by rw[beq_eq_false_iff_ne];omega
  have n7:(k==7)=false:=by rw[beq_eq_false_iff_ne];omega
  have n8:(k==8)=false:=by rw[beq_eq_false_iff_ne];omega
  simp only[M.iE,n1,n2,n3,n4,n5,n7,n8,cond_true,cond_false,ah,dN,hs,a1,a2,iw,List.length_singleton,sps sp1 _ _ a2]
  rw[eY (by omega),cond_true,eY (by omega),cond_true]
  exact done _ sp1 _ a2 a3 rfl
mutual
def sml:Tn→Prop
 | .mk _ _ x y ks=>(x.length≤1048576∧y.length≤1048576)∧amI ks
def amI:List Tn→Prop
 |[]=>True
 |t::ts=>sml t∧amI ts
end
mutual
theorem anO:∀(t:Tn) (b:Nat),sml t↔∀n,n∈t.flat b→Small n
 | .mk k o x y ks,b=>by
  rw[sml,aly ks b,Tn.flat]
  constructor
  ·rintro⟨⟨h1,h2⟩,h3⟩ n hn
   rcases List.mem_append.1 hn with hn|hn
   ·exact h3 n hn
   ·simp only[List.mem_singleton] at hn
    subst hn
    exact⟨h1,h2⟩
  ·intro h
   have h1:=h ⟨k,o,x,y,ends ks b⟩ (by simp)
   exact⟨⟨h1.text,h1.other⟩,fun n hn=>h n (List.mem_append_left _ hn)⟩
theorem aly:∀(ks:List Tn) (b:Nat),amI ks↔∀n,n∈kZ ks b→Small n
 |[],b=>by simp[amI,kZ]
 |t::ts,b=>by
  rw[amI,anO t b,aly ts (b+t.size),kZ]
  constructor
  ·rintro⟨h1,h2⟩ n hn
   rcases List.mem_append.1 hn with hn|hn
   ·exact h1 n hn
   ·exact h2 n hn
  ·intro h
   exact⟨fun n hn=>h n (List.mem_append_left _ hn),fun n hn=>h n (List.mem_append_right _ hn)⟩
end
theorem Gf:∀{ks:List Tn} {u:Tn},amI ks→u∈ks→sml u
 |[],_,_,h=>by cases h
 |t::ts,u,h,hu=>by
  rw[amI] at h
  rcases List.mem_cons.1 hu with rfl|hu
  ·exact h.1
  ·exact Gf h.2 hu
theorem avu(l:List (aF))(h:∀g,g∈l→g.length≤9)(i:Nat):(l[i]?.getD []).length≤9:=by
 cases hx:l[i]? with
 |none=>simp
 |some g=>exact h g (List.mem_of_getElem? hx)
theorem aJW:∀g,g∈RS→g.length≤9:=by decide+kernel
theorem aJX:∀g,g∈Pg→g.length≤9:=by decide+kernel
theorem JK(k:Int):(spell k).length≤9:=by
 unfold spell
 split
 ·simp
 ·split
  ·exact avu _ aJW _
  ·split
   ·exact avu _ aJX _
   ·simp
def Sm(l:List Tk):Prop:=∀t,t∈l→t.text.length≤1048576
theorem Sz:Sm []:=fun t h=>by cases h
theorem sH{t:Tk}{l:List Tk}(h:t.text.length≤1048576)(hl:Sm l):Sm (t::l):=by
 intro u hu
 rcases List.mem_cons.1 hu with rfl|hu
 ·exact h
 ·exact hl u hu
theorem JL{a b:List Tk}(ha:Sm a)(hb:Sm b):Sm (a++b):=by
 intro u hu
 rcases List.mem_append.1 hu with hu|hu
 ·exact ha u hu
 ·exact hb u hu
theorem GH(k:Int):(tok k).text.length≤1048576:=by
 have:=JK k
 show(spell k).length≤1048576
 omega
theorem DF{a b:List Tk}(c:Bool)(ha:Sm a)(hb:Sm b):Sm (bif c then a else b):=by cases c<;>assumption
theorem asL:∀{L:List (List Tk)} (b:Bool),(∀l,l∈L→Sm l)→Sm (BH b L)
 |[],b,_=>by rw[BH];exact Sz
 |x::l,b,h=>by
  have h1:=h x List.mem_cons_self
  rw[BH]
  exact JL (DF _ h1 (sH (GH _) h1)) (asL false fun l hl=>h l (List.mem_cons_of_mem _ hl))
theorem azq{L:List (List Tk)}(h:∀l,l∈L→Sm l)(j:Nat):Sm (xQ L j):=by
 unfold xQ
 cases hx:L[j]? with
 |none=>exact Sz
 |some l=>exact h l (List.mem_of_getElem? hx)
theorem azr{k op:Int}{n:Nat}{x:aF}{L:List (List Tk)}(hx:x.length≤1048576)(h:∀l,l∈L→Sm l):Sm (CX k op n x L):=by
 have t1:∀z:Int,Sm [⟨z,x,0⟩]:=fun z=>sH hx Sz
 have t2:∀z:Int,Sm [tok z]:=fun z=>sH (GH z) Sz
 have n1:=azq h
 have c1:=asL true h
 unfold CX
 refine DF _ (t1 _) (DF _ (t1 _) (DF _ (t1 _) (DF _ (t1 _) (DF _ ?_ (DF _ ?_ (DF _ ?_ (DF _ ?_ (DF _ ?_ (DF _ ?_ (DF _ ?_ (DF _ ?_ ?_)))))))))))
 ·exact sH hx (sH (GH _) (JL c1 (t2 _)))
 ·exact sH hx (sH (GH _) (JL c1 (t2 _)))
 ·exact sH hx (sH (GH _) (JL c1 (t2 _)))
 ·exact sH (GH _) (n1 _)
 ·exact sH (GH _) (n1 _)
 ·exact JL (n1 _) (t2 _)
 ·exact JL (DF _ (sH (GH _) (JL c1 (t2 _))) (n1 _)) (sH (GH _) (sH hx Sz))
 ·exact JL (n1 _) (sH (GH _) (JL (n1 _) (sH (GH _) (n1 _))))
 ·exact JL (n1 _) (JL (DF _ Sz (t2 _)) (n1 _))
theorem anP{k op:Int}{n:Nat}{p:Ps}:∀{ts:List Tn} {j:Nat},(∀u,u∈ts→∀q,Sm (sF u q))→∀l,l∈jg k op n p ts j→Sm l
 |[],j,_,l,hl=>by rw[jg] at hl;cases hl
 |t::ts,j,h,l,hl=>by
  rw[jg] at hl
  rcases List.mem_cons.1 hl with rfl|hl
  ·exact DF _ (h t List.mem_cons_self _) (sH (GH _) (JL (h t List.mem_cons_self _) (sH (GH _) Sz)))
  ·exact anP (fun u hu=>h u (List.mem_cons_of_mem _ hu)) l hl
theorem anQ(t:Tn):sml t→∀p,Sm (sF t p):=by
 refine Tn.ind (P:=fun t=>sml t→∀p,Sm (sF t p)) ?_ t
 intro k op x y ks ih h p
 rw[sml] at h
 rw[sF]
 exact azr h.1.1 (anP fun u hu q=>ih u hu (Gf h.2 hu) q)
theorem asM{k op:Int}{n:Nat}{p:Ps}{j:Nat}{u:Tn}(h:sml u):Sm (qY k op n p j u):=
 DF _ (anQ u h _) (sH (GH _) (JL (anQ u h _) (sH (GH _) Sz)))
theorem asN(t:Tn):ED t→RX t→∀p,sF t p≠[]:=by
 refine Tn.ind (P:=fun t=>ED t→RX t→∀p,sF t p≠[]) ?_ t
 intro k op x y ks ih hok he p
 have hc:=Lu hok
 have he':=he
 simp only[RX,Tn.kind] at he'
 have ih':∀i u,ks[i]? =some u→∀q,sF u q≠[]:=fun i u e q=>by
  obtain⟨h1,h2⟩:=Xm hok he' e
  exact ih u (List.mem_of_getElem? e) h2 h1 q
 have kne:∀i u,ks[i]? =some u→qY k op ks.length p i u≠[]:=by
  intro i u e
  unfold qY
  cases(nI k i||fits u.kind u.op (dZ k op ks.length i p)) with
  |true=>exact ih' i u e _
  |false=>simp
 rw[sF]
 have hk:k=1∨k=2∨k=3∨k=4∨k=5∨k=7∨k=8∨k=6∨k=9∨k=10∨k=11∨k=13∨k=14∨(k=12∨k=15):=by omega
 rcases hk with rfl|rfl|rfl|rfl|rfl|rfl|rfl|rfl|rfl|rfl|rfl|rfl|rfl|hk
 iterate 13 simp[CX]
 obtain⟨u,v,rfl⟩:=Gz (hc.two (by omega))
 have h0:qY k op 2 p 0 u≠[]:=kne 0 u rfl
 rcases hk with rfl|rfl
 ·rw[Sv]
  simp[CX,xQ,h0]
 ·rw[Sv]
  simp[CX,xQ,h0]
theorem anR{k op:Int}{n:Nat}{p:Ps}{j:Nat}{u:Tn}(h1:ED u)(h2:RX u):qY k op n p j u≠[]:=by
 unfold qY
 cases(nI k j||fits u.kind u.op (dZ k op n j p)) with
 |true=>exact asN u h1 h2 _
 |false=>simp
def CY(t:Tn):Int×Int×aF×ak×Int:=(t.kind,t.op,t.text,nJ false t.kids,0)
section
variable (t:Tn) (s:aF) (L:List Tn) (a b c d e f g h:Tn)
theorem Je:(CY t).1=t.kind:=rfl
theorem Jf:(CY t).2.1=t.op:=rfl
theorem Jg:(CY t).2.2.1=t.text:=rfl
theorem Jh:(CY t).2.2.2.1=nJ false t.kids:=rfl
theorem Ji:(CY t).2.2.2.2=0:=rfl
theorem Jj:aA (nJ false L)=nJ false L:=acL false L
theorem gY:([D.int .i64 t.kind,D.int .i64 t.op,D.str t.text,D.sl false 5 (nJ false t.kids),D.int .i64 0]:Row)=xU false t:=by cases t;rfl
theorem dQ:(t.kind,t.op,t.text,nJ false t.kids,(0:Int))=CY t:=rfl
theorem kM:M.bI s=some (CY (lI s)):=rfl
theorem Yi:M.rY=some (CY Qm):=rfl
theorem asO:M.dI (nJ false L)=some (CY (ql L)):=rfl
theorem alz:M.dI [xU false a,xU false b]=some (CY (ql [a,b])):=rfl
theorem adw:M.dI [xU false a,xU false b,xU false c]=some (CY (ql [a,b,c])):=rfl
theorem ao7:M.dI [xU false a,xU false b,xU false c,xU false d]=some (CY (ql [a,b,c,d])):=rfl
theorem aJY:M.dI [xU false a,xU false b,xU false c,xU false d,xU false e]=some (CY (ql [a,b,c,d,e])):=rfl
theorem acM:M.pq t.kind t.op t.text (nJ false t.kids) 0=some (CY (Uk t)):=by cases t;rfl
theorem aat:M.oN t.kind t.op t.text (nJ false t.kids) 0=some (CY (ao0 t)):=by cases t;rfl
end
theorem Jb:∀a b:List Tn,nJ false (a++b)=nJ false a++nJ false b:=fun a b=>by simp[S9]
theorem Yj:∀(L:List Tn) (b:Bool) (x:Tn),NK b (L++[x])=NK b L++(bif L.isEmpty && b then[x] else[lI [44],Qm,x])
 |[],b,x=>by cases b<;>simp[NK]
 |y::L,b,x=>by
  rw[List.cons_append,NK,NK,Yj L false x]
  simp
theorem acN:∀(L:List Tn) (b:Bool),(NK b L).length≤3 * L.length
 |[],b=>by simp[NK]
 |y::L,b=>by
  have:=acN L false
  cases b<;>simp only[NK,cond_true,cond_false,List.length_append,List.length_cons,List.length_nil]<;>omega
def Vs(p:Ps)(ks:List Tn):List Tn:=ks.map fun u=>zB u p
theorem Xp(p:Ps)(ks:List Tn):(Vs p ks).length=ks.length:=by simp[Vs]
theorem alA(p:Ps)(ks:List Tn):KT p ks=acw (Vs p ks):=rfl
theorem acO{ks:List Tn}{p:Ps}{b:Int×ak→Option ((Int×ak)⊕(Int×ak))}(hu:ks.length≤1048576)
  (hb:∀(j:Nat) u (L:List Tn),ks[j]? =some u→L.length≤4000000→b ((j:Int),nJ false L)=some (.inl (((j+1:Nat):Int),nJ false (L++(if j=0 then[zB u p] else[lI [44],Qm,zB u p])))))
  (he:∀r,b ((ks.length:Int),r)=some (.inr ((ks.length:Int),r))):
  iR b (0,[])=some ((ks.length:Int),nJ false (NK true (Vs p ks))):=by
 have:=jC (b:=b) (t:=((ks.length:Int),nJ false (NK true (Vs p ks)))) (fun j=>((j:Int),nJ false (NK true (Vs p (ks.take j))))) ks.length
  (by
   intro j hj
   obtain⟨u,hu'⟩:∃u,ks[j]? =some u:=⟨ks[j],by simp[hj]⟩
   have hl:=acN (Vs p (ks.take j)) true
   rw[Xp,List.length_take] at hl
   rw[hb j u _ hu' (by omega),lG hu']
   have e:Vs p (ks.take j++[u])=Vs p (ks.take j)++[zB u p]:=by simp[Vs]
   rw[e,Yj]
   by_cases h0:j=0
   ·subst h0
    rfl
   ·have z:(Vs p (ks.take j)).isEmpty=false:=by
     cases hq:Vs p (ks.take j) with
     |nil=>
      have:=Xp p (ks.take j)
      rw[hq,List.length_nil,List.length_take] at this
      omega
     |cons _ _=>rfl
    rw[if_neg h0,z,Bool.false_and,cond_false])
  (by rw[he,List.take_length]) 0 (Nat.zero_le _)
 exact this
theorem asP{k op:Int}{x y:aF}{ks:List Tn}(w:Bool)(hu:sizes ks≤1048575):M.jB k op x y (gW w ks)=some (k,op,x,y,encI (iota ks.length)):=by
 have hkl:=lQ ks
 have hn:=aar k op x y (gW w ks) (by rw[jm];omega)
 rwa [jm] at hn
def DT(u:Tn):Prop:=∀(w:Bool) (f:Nat) (p:Ps),5 * u.size≤f→lu p=true→
 M.zq f u.kind u.op u.text u.other (gW w u.kids) p.level p.kW p.o7 p.o8 p.jX=some (CY (qh u p))
theorem amJ{u:Tn}(hD:DT u){w:Bool}{f:Nat}{p:Ps}(hf:5 * u.size+1≤f)(hp:lu p=true)(hu:u.size≤1048576):
  M.vC f u.kind u.op u.text u.other (gW w u.kids) p.level p.kW p.o7 p.o8 p.jX=some (CY (zB u p)):=by
 obtain⟨g,rfl⟩:∃g,f=g+1:=⟨f - 1,by omega⟩
 have h1:=hD w g p (by omega) hp
 have h2:=hD w g .top (by omega) rfl
 simp only[Ps.top] at h2
 rw[M.abX]
 simp only[M.zn,aar u.kind u.op u.text u.other _ (anM hu w),ah,(aap u.kind u.op u.text u.other _ p).1,zB]
 cases fits u.kind u.op p with
 |true=>simp only[cond_true,h1,ah,Je,Jf,Jg,Jh,Ji,Jj,dQ]
 |false=>simp only[cond_false,kM,AP.1,h2,ah,Je,Jf,Jg,Jh,Ji,Jj,gY,adw,dQ,Ps.top]
section
variable {k op:Int} {x y:aF} {ks:List Tn} (ih:∀u,u∈ks→DT u)
include ih
theorem avv{w:Bool}{f:Nat}{p:Ps}{j:Nat}{u:Tn}(hj:ks[j]? =some u)(hf:5 * u.size+2≤f)(hp:lu p=true)(hlv:lvl k op≠0)(hu:sizes ks≤1048575):
  M.yB f k op x y (gW w ks) (j:Int) p.level p.kW p.o7 p.o8 p.jX=some (CY (I7 k op ks.length p j u)):=by
 obtain⟨g,rfl⟩:∃g,f=g+1:=⟨f - 1,by omega⟩
 have hkl:=lQ ks
 have hju:=(List.getElem?_eq_some_iff.1 hj).1
 have hus:=jD (List.mem_of_getElem? hj)
 have hg:=JJ w hj
 obtain⟨c0,c1,c2,c3,c4⟩:=kR w u
 have hkp:=Sl k op x y (encI (iota ks.length)) j p (by rw[dw,KW];omega)
 rw[dw,KW] at hkp
 have hq:=sG (n:=ks.length) (j:=j) hp hju hlv
 have e1:=ih u (List.mem_of_getElem? hj)
 have h1:=e1 w g (dZ k op ks.length j p) (by omega) hq
 have h2:=amJ e1 (w:=w) (f:=g) (p:=dZ k op ks.length j p) (by omega) hq (by omega)
 rw[M.adp]
 simp only[M.BF,asP w hu,ah,hg,c0,c1,c2,c3,c4,hkp,Ps.yE,Y9,I7]
 unfold zB at h2
 cases htg:nI k j with
 |true=>simp only[cond_true,Bool.true_or,h1,ah,Je,Jf,Jg,Jh,Ji,Jj,dQ]
 |false=>simp only[cond_false,Bool.false_or,h2,ah,Je,Jf,Jg,Jh,Ji,Jj,dQ]
theorem asQ{w:Bool}{f:Nat}(hf:5 * sizes ks+2≤f)(hu:sizes ks≤1048575):
  M.zo f (gW w ks)=some (CY (KT .top ks)):=by
 obtain⟨g,rfl⟩:∃g,f=g+1:=⟨f - 1,by omega⟩
 have hkl:=lQ ks
 rw[M.abY]
 simp only[M.zl,M.FQ,jm]
 rw[acO (ks:=ks) (p:=.top) (by omega) (fun j u L hj hL=> ?_) (fun r=> ?_)]
 ·simp only[ah,asO,Je,Jf,Jg,Jh,Ji,Jj,acM,aat,dQ]
  rfl
 ·have hjl:=(List.getElem?_eq_some_iff.1 hj).1
  have hus:=jD (List.mem_of_getElem? hj)
  obtain⟨c0,c1,c2,c3,c4⟩:=kR w u
  have h1:=amJ (ih u (List.mem_of_getElem? hj)) (w:=w) (f:=g) (p:=.top) (by omega) rfl (by omega)
  simp only[Ps.top] at h1
  have hw:IntKind.i64.wrap ((j:Int)+1)=((j+1:Nat):Int):=by rw[aP (by omega) (by omega)];omega
  simp only[M.IK,M.xI,JJ w hj,c0,c1,c2,c3,c4,ah,kM,Yi,M.Dk,M.L6,AP.1,h1,Je,Jf,Jg,Jh,Ji,Jj,gY,Md,List.length_append,List.length_cons,List.length_nil,hw]
  rw[decide_eq_true (by omega),cond_true]
  by_cases h0:j=0
  ·subst h0
   rw[decide_eq_false (by omega),cond_false,eY (by omega),cond_true,eY (by omega),cond_true,if_pos rfl,Jb]
   rfl
  ·rw[decide_eq_true (by omega),cond_true,eY (by omega),cond_true,eY (by omega),cond_true,eY (by omega),cond_true,eY (by omega),cond_true,if_neg h0,Jb,List.append_assoc]
   rfl
 ·simp only[M.IK,M.xI]
  rw[decide_eq_false (by omega),cond_false]
end
theorem xW{n:Nat}(h:n≤8000000):n.ble 9223372036854775807=true:=eY (by omega)
theorem Oz(k op:Int)(n:Nat)(p:Ps)(u:Tn):qI k op n p [u] 0=[I7 k op n p 0 u]:=by rw[qI,qI];rfl
theorem afK(k op:Int)(n:Nat)(p:Ps)(u v:Tn):qI k op n p [u,v] 0=[I7 k op n p 0 u,I7 k op n p 1 v]:=by rw[qI,qI,qI];rfl
theorem asR(k op:Int)(n:Nat)(p:Ps)(u v z:Tn):qI k op n p [u,v,z] 0=[I7 k op n p 0 u,I7 k op n p 1 v,I7 k op n p 2 z]:=by rw[qI,qI,qI,qI];rfl
theorem acP{k op:Int}{n:Nat}{p:Ps}(ht:∀j,nI k j=false)(hq:∀j,j<n→dZ k op n j p=.top):∀(ts:List Tn) (j:Nat),j+ts.length=n→qI k op n p ts j=Vs .top ts
 |[],j,_=>by rw[qI];rfl
 |t::ts,j,hj=>by
  rw[List.length_cons] at hj
  rw[qI,hq j (by omega),ht j,acP ht hq ts (j+1) (by omega),Bool.false_or]
  rfl
theorem KY{k op:Int}{ks:List Tn}{p:Ps}(hp:lu p=true)(h:(lvl k op=15)∨(k=13∧Nat.blt 1 ks.length=true∧lvl k op≠0))(ht:∀j,nI k j=false):qI k op ks.length p ks 0=Vs .top ks:=by
 refine acP ht (fun j hj=> ?_) ks 0 (by omega)
 rcases h with h|⟨h1,h2,h3⟩
 ·exact DC hp hj h
 ·have hb:Nat.blt j ks.length=true:=by rw[Nat.blt_eq];exact hj
  have h4:(lvl k op==0)=false:=by simpa using h3
  subst h1
  unfold dZ
  rw[hp,hb,h4,h2]
  simp
theorem auE{op:Int}{x y:aF}{u:Tn}(hD:DT u)(hT:PT u)(hok:ED u)(he:RX u)(hs:sml u){w:Bool}{f:Nat}{p:Ps}(hc:Cnt 11 op y 1)(hf:5 * u.size+3≤f)(hp:lu p=true)(hu:u.size≤1048575):
  M.Bh f 11 op x y (gW w [u]) p.level p.kW p.o7 p.o8 p.jX=some (CY (qh (.mk 11 op x y [u]) p)):=by
 obtain⟨g,rfl⟩:∃g,f=g+1:=⟨f - 1,by omega⟩
 have ihD:∀v,v∈[u]→DT v:=by intro v hv;rw[List.mem_singleton.1 hv];exact hD
 have ihT:∀v,v∈[u]→PT v:=by intro v hv;rw[List.mem_singleton.1 hv];exact hT
 have hs1:=Zb u
 have hlv:lvl 11 op≠0:=by simp[lvl]
 have hI:I64 op:=by rcases hc.una rfl with rfl|rfl|rfl<;>constructor<;>decide
 have h1:=avv ihD (w:=w) (f:=g) (p:=p) (x:=x) (y:=y) (k:=11) (op:=op) (j:=0) (u:=u) rfl (by omega) hp hlv (by omega)
 obtain⟨sp,h2,h3,h4⟩:=KX ihT (w:=w) (f:=5 * u.size+2) (p:=p) (toks:=[]) (sp:=[]) (x:=x) (y:=y) (op:=op) (k:=11) (j:=0) (u:=u) rfl (by omega) hp hlv rfl (by simp only[List.length_nil];omega) (by simp only[List.length_nil];omega) (by omega)
 have h2':=M.TA h2
 rw[qH] at h1 h2'
 have e0:kF []=[]:=rfl
 rw[e0,List.nil_append] at h2'
 rw[qh,Oz,LC,M.ZU]
 have hne:=anR (k:=11) (op:=op) (n:=[u].length) (p:=p) (j:=0) hok he
 have hsm:=asM (k:=11) (op:=op) (n:=[u].length) (p:=p) (j:=0) hs
 generalize qY 11 op [u].length p 0 u=K at *
 cases K with
 |nil=>exact absurd rfl hne
 |cons b K=>
  have hsl:=JK op
  have hg:M.qR op (spell op) 0 b.kind b.text b.at_=some (Dz (tok op) b):=Yg (tok op) b (by show(spell op).length≤_;omega) (by have:=hsm b List.mem_cons_self;omega)
  have i0:idx (kF (b::K)) 0=some (abl b):=rfl
  have i1:(kF (b::K))[0]? =some (abl b):=rfl
  simp(disch:=omega) only[M.vY,h2',ah,(lT op hI).2,(kQ op hI).1,i0,i1,cT0,cT1,cT2,hg,h1,kM,Je,Jf,Jg,Jh,Ji,Jj,gY,alz,dQ,xW]
  have ha:Vh 11 op [u].length x (ael op [b::K]) [I7 11 op [u].length p 0 u]=ql [lI (bif Dz (tok op) b then spell op++[32] else spell op),I7 11 op [u].length p 0 u]:=rfl
  rw[ha]
  cases Dz (tok op) b<;>rfl
set_option maxHeartbeats 2000000 in
theorem asT(t:Tn):ED t→RX t→sml t→t.size≤1048576→DT t:=by
 refine Tn.ind (P:=fun t=>ED t→RX t→sml t→t.size≤1048576→DT t) ?_ t
 intro k op x y ks ih hok he hsm hsz
 intro w f p hf hp
 have hc:=Lu hok
 have he':=he
 simp only[RX,Tn.kind] at he'
 rw[sml] at hsm
 obtain⟨⟨hx,hy⟩,hss⟩:=hsm
 rw[Tn.size] at hsz hf
 have hkE:∀u,u∈ks→ED u∧RX u∧sml u:=by
  intro u hu
  obtain⟨i,hi⟩:=List.mem_iff_getElem?.1 hu
  obtain⟨h1,h2⟩:=Xm hok he' hi
  exact⟨h2,h1,Gf hss hu⟩
 have ih':∀u,u∈ks→DT u:=by
  intro u hu
  obtain⟨h1,h2,h3⟩:=hkE u hu
  have:=jD hu
  exact ih u hu h1 h2 h3 (by omega)
 obtain⟨g,rfl⟩:∃g,f=g+1:=⟨f - 1,by omega⟩
 have hlv:lvl k op≠0:=by have:=Og he' hc;omega
 have hL:=asQ ih' (w:=w) (f:=g) (by omega) (by omega)
 have hK:∀(j:Nat) u,ks[j]? =some u→M.yB g k op x y (gW w ks) (j:Int) p.level p.kW p.o7 p.o8 p.jX=some (CY (I7 k op ks.length p j u)):=by
  intro j u hj
  have:=jD (List.mem_of_getElem? hj)
  exact avv ih' (w:=w) (f:=g) (p:=p) (x:=x) (y:=y) (k:=k) (op:=op) hj (by omega) hp hlv (by omega)
 simp only[Tn.kind,Tn.op,Tn.text,Tn.other,Tn.kids]
 rw[M.abZ]
 have hk:k=1∨k=2∨k=3∨k=4∨k=5∨k=7∨k=8∨k=9∨k=10∨k=6∨k=11∨k=14∨k=13∨k=12∨k=15:=by omega
 rcases hk with rfl|rfl|rfl|rfl|rfl|rfl|rfl|rfl|rfl|rfl|rfl|rfl|rfl|rfl|rfl
 ·simp only[M.fA,Int.reduceBEq,cond_true,cond_false,kM,ah,Je,Jf,Jg,Jh,Ji,Jj,dQ]
  rfl
 ·simp only[M.fA,Int.reduceBEq,cond_true,cond_false,kM,ah,Je,Jf,Jg,Jh,Ji,Jj,dQ]
  rfl
 ·simp only[M.fA,Int.reduceBEq,cond_true,cond_false,kM,ah,Je,Jf,Jg,Jh,Ji,Jj,dQ]
  rfl
 ·simp only[M.fA,Int.reduceBEq,cond_true,cond_false,kM,ah,Je,Jf,Jg,Jh,Ji,Jj,dQ]
  rfl
 ·simp(disch:=omega) only[M.fA,Int.reduceBEq,cond_true,cond_false,kM,ah,hL,Je,Jf,Jg,Jh,Ji,Jj,gY,adw,dQ,xW]
  rw[qh,KY hp (.inl rfl) (fun j=>by simp[nI])]
  rfl
 ·simp(disch:=omega) only[M.fA,Int.reduceBEq,cond_true,cond_false,kM,ah,hL,Je,Jf,Jg,Jh,Ji,Jj,gY,adw,dQ,xW]
  rw[qh,KY hp (.inl rfl) (fun j=>by simp[nI])]
  rfl
 ·simp(disch:=omega) only[M.fA,Int.reduceBEq,cond_true,cond_false,kM,ah,hL,Je,Jf,Jg,Jh,Ji,Jj,gY,adw,dQ,xW]
  rw[qh,KY hp (.inl rfl) (fun j=>by simp[nI])]
  rfl
 ·obtain⟨u,rfl⟩:=List.length_eq_one_iff.1 (hc.one (by omega))
  have hI:I64 op:=by rcases hc.stp (by omega) with rfl|rfl<;>constructor<;>decide
  have k0:=hK 0 u rfl
  rw[qH] at k0
  simp only[M.fA,Int.reduceBEq,cond_true,cond_false,kM,ah,(lT op hI).2,k0,Je,Jf,Jg,Jh,Ji,Jj,gY,alz,dQ]
  rw[qh,Oz]
  rfl
 ·obtain⟨u,rfl⟩:=List.length_eq_one_iff.1 (hc.one (by omega))
  have hI:I64 op:=by rcases hc.stp (by omega) with rfl|rfl<;>constructor<;>decide
  have k0:=hK 0 u rfl
  rw[qH] at k0
  simp only[M.fA,Int.reduceBEq,cond_true,cond_false,kM,ah,(lT op hI).2,k0,Je,Jf,Jg,Jh,Ji,Jj,gY,alz,dQ]
  rw[qh,Oz]
  rfl
 ·obtain⟨u,rfl⟩:=List.length_eq_one_iff.1 (hc.one (by omega))
  have k0:=hK 0 u rfl
  rw[qH] at k0
  simp only[M.fA,Int.reduceBEq,cond_true,cond_false,kM,ah,k0,Je,Jf,Jg,Jh,Ji,Jj,gY,alz,dQ]
  rw[qh,Oz]
  rfl
 ·obtain⟨u,rfl⟩:=List.length_eq_one_iff.1 (hc.one (by omega))
  obtain⟨h1,h2,h3⟩:=hkE u (by simp)
  rw[Zb] at hf hsz
  have a1:=auE (x:=x) (ih' u (by simp)) (azp u h1 h2) h1 h2 h3 (w:=w) (f:=g) (p:=p) hc (by omega) hp (by omega)
  simp only[M.fA,Int.reduceBEq,cond_true,cond_false,a1,ah,Je,Jf,Jg,Jh,Ji,Jj,dQ]
 ·obtain⟨u,v,z,rfl⟩:=Pv (hc.three rfl)
  have k0:=hK 0 u rfl
  have k1:=hK 1 v rfl
  have k2:=hK 2 z rfl
  rw[qH] at k0
  rw[Qi] at k1
  rw[ao6] at k2
  simp only[M.fA,Int.reduceBEq,cond_true,cond_false,kM,ah,k0,k1,k2,Je,Jf,Jg,Jh,Ji,Jj,gY,aJY,dQ]
  rw[qh,asR]
  rfl
 ·cases hm:Nat.blt 1 ks.length with
  |true=>
   simp(disch:=omega) only[M.fA,Int.reduceBEq,cond_true,cond_false,jm,many,hm,kM,ah,hL,Je,Jf,Jg,Jh,Ji,Jj,gY,adw,dQ,xW]
   rw[qh,KY hp (.inr ⟨rfl,hm,by simp[lvl]⟩) (fun j=>by simp[nI])]
   simp[Vh,hm,alA]
  |false=>
   have h1:ks.length=1:=by
    have h2:=hc.some_ (by omega)
    have h3:¬1<ks.length:=by rw[←Nat.blt_eq,hm];simp
    omega
   obtain⟨u,rfl⟩:=List.length_eq_one_iff.1 h1
   have k0:=hK 0 u rfl
   rw[qH] at k0
   simp(disch:=omega) only[M.fA,Int.reduceBEq,cond_true,cond_false,jm,many,hm,kM,ah,k0,Je,Jf,Jg,Jh,Ji,Jj,gY,alz,dQ,xW]
   rw[qh,Oz]
   rfl
 ·obtain⟨u,v,rfl⟩:=Gz (hc.two (by omega))
  have hI:=aas (hc.bin rfl).1
  have hsl:=JK op
  have k0:=hK 0 u rfl
  have k1:=hK 1 v rfl
  rw[qH] at k0
  rw[Qi] at k1
  rw[qh,afK]
  by_cases h99:op=99
  ·subst h99
   simp only[M.fA,Int.reduceBEq,cond_true,cond_false,kM,ah,k0,k1,Je,Jf,Jg,Jh,Ji,Jj,gY,adw,dQ]
   rfl
  ·by_cases h45:op=45
   ·subst h45
    simp(disch:=omega) only[M.fA,Int.reduceBEq,cond_true,cond_false,kM,Yi,ah,k0,k1,(lT 45 hI).2,Je,Jf,Jg,Jh,Ji,Jj,gY,ao7,acM,aat,dQ,xW]
    rfl
   ·by_cases h44:op=44
    ·subst h44
     simp(disch:=omega) only[M.fA,Int.reduceBEq,cond_true,cond_false,kM,Yi,ah,k0,k1,(lT 44 hI).2,Je,Jf,Jg,Jh,Ji,Jj,gY,ao7,acM,aat,dQ,xW]
     rfl
    ·have e1:(op==99)=false:=by simpa using h99
     have e2:(op==45)=false:=by simpa using h45
     have e3:(op==44)=false:=by simpa using h44
     simp(disch:=omega) only[M.fA,Int.reduceBEq,e1,e2,e3,cond_true,cond_false,kM,Yi,ah,k0,k1,(lT op hI).2,List.length_append,List.length_cons,List.length_nil,Je,Jf,Jg,Jh,Ji,Jj,gY,adw,dQ,xW]
     simp[Vh,e1,e2,e3,vT]
 ·obtain⟨u,v,rfl⟩:=Gz (hc.two (by omega))
  have hI:I64 op:=by rcases hc.asg rfl with rfl|h<;>constructor<;>omega
  have hsl:=JK op
  have k0:=hK 0 u rfl
  have k1:=hK 1 v rfl
  rw[qH] at k0
  rw[Qi] at k1
  rw[qh,afK]
  simp(disch:=omega) only[M.fA,Int.reduceBEq,cond_true,cond_false,kM,Yi,ah,k0,k1,(lT op hI).2,List.length_append,List.length_cons,List.length_nil,Je,Jf,Jg,Jh,Ji,Jj,gY,adw,dQ,xW]
  simp[Vh,vT]
structure Ex'(u:Tn):Prop where
 ok:ED u
 e:RX u
 sm:sml u
 sz:u.size≤1048576
theorem afL{u:Tn}(h:Ex' u)(w:Bool){p:Ps}(hp:lu p=true):M.gV u.kind u.op u.text u.other (gW w u.kids) p.level p.kW p.o7 p.o8 p.jX=some (CY (zB u p)):=
 M.ZV (amJ (asT u h.ok h.e h.sm h.sz) (f:=5 * u.size+1) (Nat.le_refl _) hp h.sz)
theorem aeu{u:Tn}(h:Ex' u)(w:Bool):M.mQ u.kind u.op u.text u.other (gW w u.kids)=some (CY (Lr u)):=by
 have h1:=afL h w (p:=.top) rfl
 simp only[Ps.top] at h1
 simp only[M.mQ,M.KD,AP.1,ah,h1,Je,Jf,Jg,Jh,Ji,Jj,dQ]
 rfl
theorem acQ{u:Tn}(h:u.kind=16∨Ex' u)(w:Bool):M.nS u.kind u.op u.text u.other (gW w u.kids)=some (CY (NM u)):=by
 simp only[M.nS,M.KE,NM]
 rcases h with h|h
 ·rw[h]
  simp only[beq_self_eq_true,cond_true,kM,ah,Je,Jf,Jg,Jh,Ji,Jj,dQ]
 ·have h1:(u.kind==16)=false:=by have:=h.e;unfold RX at this;rw[beq_eq_false_iff_ne];omega
  simp only[h1,cond_false,kM,aeu h w,ah,Je,Jf,Jg,Jh,Ji,Jj,gY,alz,dQ]
theorem azs{ks:List Tn}(h:∀u,u∈ks→Ex' u)(hs:sizes ks≤1048575)(w:Bool):M.nC (gW w ks)=some (CY (KT .top ks)):=
 M.ZW (asQ (fun u hu=>asT u (h u hu).ok (h u hu).e (h u hu).sm (h u hu).sz) (f:=5 * sizes ks+2) (Nat.le_refl _) hs)
theorem anS{ks:List Tn}(h:∀u,u∈ks→Ex' u)(hs:sizes ks≤1048575)(w:Bool):M.oP (gW w ks)=some (CY (KT ⟨1,false,false,true,false⟩ ks)):=by
 have hkl:=lQ ks
 simp only[M.oP,M.Em,M.CB,jm]
 rw[acO (ks:=ks) (p:=⟨1,false,false,true,false⟩) (by omega) (fun j u L hj hL=> ?_) (fun r=> ?_)]
 ·simp only[ah,asO,Je,Jf,Jg,Jh,Ji,Jj,acM,aat,dQ]
  rfl
 ·have hjl:=(List.getElem?_eq_some_iff.1 hj).1
  have hus:=jD (List.mem_of_getElem? hj)
  obtain⟨c0,c1,c2,c3,c4⟩:=kR w u
  have h1:=afL (h u (List.mem_of_getElem? hj)) w (p:=⟨1,false,false,true,false⟩) rfl
  have hw:IntKind.i64.wrap ((j:Int)+1)=((j+1:Nat):Int):=by rw[aP (by omega) (by omega)];omega
  simp only[M.EO,M.tq,JJ w hj,c0,c1,c2,c3,c4,ah,kM,Yi,M.nR,M.Ar,h1,Je,Jf,Jg,Jh,Ji,Jj,gY,Md,List.length_append,List.length_cons,List.length_nil,hw]
  rw[decide_eq_true (by omega),cond_true]
  by_cases h0:j=0
  ·subst h0
   rw[decide_eq_false (by omega),cond_false,eY (by omega),cond_true,eY (by omega),cond_true,if_pos rfl,Jb]
   rfl
  ·rw[decide_eq_true (by omega),cond_true,eY (by omega),cond_true,eY (by omega),cond_true,eY (by omega),cond_true,eY (by omega),cond_true,if_neg h0,Jb,List.append_assoc]
   rfl
 ·simp only[M.EO,M.tq]
  rw[decide_eq_false (by omega),cond_false]
theorem asU{ks:List Tn}(h:∀u,u∈ks→Ex' u)(wd:aF)(k op:Int)(x y:aF)(w:Bool):M.tX wd k op x y (gW w ks)=some (CY (acz wd ks)):=by
 simp only[M.tX,M.IQ]
 cases ks with
 |nil=>
  rw[show(((gW w []).length:Int)==0)=true from rfl]
  simp only[cond_true,kM,ah,Je,Jf,Jg,Jh,Ji,Jj,dQ]
  rfl
 |cons u l=>
  have hi:idx (gW w (u::l)) 0=some (u.row w):=rfl
  obtain⟨c0,c1,c2,c3,c4⟩:=kR w u
  have e0:(((gW w (u::l)).length:Int)==0)=false:=by rw[beq_eq_false_iff_ne,jm,List.length_cons];omega
  simp only[e0,cond_false,kM,ah,hi,c0,c1,c2,c3,c4,acQ (.inr (h u List.mem_cons_self)) w,Je,Jf,Jg,Jh,Ji,Jj,gY,alz,dQ]
  rfl
theorem aJZ(a b c:Tn):M.dI ([xU false a]++[xU false b,xU false c])=some (CY (ql [a,b,c])):=rfl
theorem aTF(a b c d e:Tn):M.dI ([xU false a]++[xU false b,xU false c]++[xU false d,xU false e])=some (CY (ql [a,b,c,d,e])):=rfl
theorem aTG(a:Tn):M.dI [xU false a]=some (CY (ql [a])):=rfl
theorem amK(w:Bool)(ks:List Tn)(n:Nat):(gW w ks).take n=gW w (ks.take n):=by simp[OZ,List.map_take]
theorem auF{ks:List Tn}(h:∀u,u∈ks→Ex' u)(hs:sizes ks≤1048575)(op:Int)(x y:aF)(hop:op=0∨op=1)(hy:y≠[]→1≤ks.length)(hyl:y.length≤1048576)(w:Bool):
  M.uw 21 op x y (gW w ks)=some (CY (amA op y ks)):=by
 have hkl:=lQ ks
 have hst:cStr [D.str [112,114,105,110,116],D.str [112,114,105,110,116,102]] op.toNat=some (bif op==0 then[112,114,105,110,116] else[112,114,105,110,116,102]):=by rcases hop with rfl|rfl<;>rfl
 have hr:(decide (0≤op) && decide (op<2))=true:=by rcases hop with rfl|rfl<;>rfl
 simp only[M.uw,M.FX,hst,hr,cond_true,ah,kM,amA]
 have gt:∀L:List Tn,decide (((gW w L).length:Int)>0)=Nat.blt 0 L.length:=by
  intro L
  rw[jm]
  exact Tc 0 L.length
 by_cases hy0:y=[]
 ·have e0:(y==[])=true:=by simpa using hy0
  have l1:=anS h hs w
  simp only[e0,Bool.not_true,cond_true,cond_false,gt]
  cases Nat.blt 0 ks.length with
  |true=>
   simp only[cond_true,ah,l1,Je,Jf,Jg,Jh,Ji,Jj,gY,aJZ,dQ]
   rfl
  |false=>
   simp only[cond_false,ah,Je,Jf,Jg,Jh,Ji,Jj,gY,aTG,dQ]
   rfl
 ·have e0:(y==[])=false:=by simpa using hy0
  have hn:=hy hy0
  have hw:IntKind.i64.wrap (((gW w ks).length:Int) - 1)=((ks.length - 1:Nat):Int):=by rw[jm,aP (by omega) (by omega)];omega
  have hcut:cut (gW w ks) 0 ((ks.length - 1:Nat):Int)=some (gW w (ks.take (ks.length - 1))):=by rw[asH _ _ (by rw[jm];omega),amK]
  obtain⟨u,hu⟩:∃u,ks[ks.length - 1]? =some u:=⟨ks[ks.length - 1],by simp⟩
  have hnt:G9 ks (ks.length - 1)=u:=by rw[G9,hu];rfl
  obtain⟨c0,c1,c2,c3,c4⟩:=kR w u
  have he:=afL (h u (List.mem_of_getElem? hu)) w (p:=⟨9,false,false,false,false⟩) rfl
  have l1:=anS (ks:=ks.take (ks.length - 1)) (fun v hv=>h v (List.mem_of_mem_take hv)) (by have:=take_size ks (ks.length - 1);omega) w
  simp only[e0,Bool.not_false,cond_true,cond_false,hw,hcut,ah,gt,hnt]
  cases Nat.blt 0 (ks.take (ks.length - 1)).length with
  |true=>
   simp(disch:=omega) only[cond_true,ah,l1,JJ w hu,c0,c1,c2,c3,c4,he,List.length_append,List.length_cons,List.length_nil,Je,Jf,Jg,Jh,Ji,Jj,gY,aTF,dQ,xW]
   rfl
  |false=>
   simp(disch:=omega) only[cond_true,cond_false,ah,l1,JJ w hu,c0,c1,c2,c3,c4,he,List.length_append,List.length_cons,List.length_nil,Je,Jf,Jg,Jh,Ji,Jj,gY,aJZ,dQ,xW]
   rfl
theorem afM(s:aF)(h0:s≠[])(hs:s.length≤4000000):M.qx s 0=some ((opF s Pg 0 0 0).1,((acy s Pg 0:Nat):Int)):=by
 have hl:Pg.length=39:=rfl
 have hn:1≤s.length:=by cases s with|nil=>exact absurd rfl h0|cons=>simp
 simp only[M.qx,M.N8,M.LX,ale,ah]
 rw[anI s Pg (fun i g k m hg hm=> ?_) (fun k m=> ?_) asI,ah,aaq]
 ·have hi:=(List.getElem?_eq_some_iff.1 hg).1
  rw[hl] at hi
  have hg2:=asI g (List.mem_of_getElem? hg)
  have hw1:IntKind.i64.wrap (30+(i:Int))=30+(i:Int):=aP (by omega) (by omega)
  have hw2:IntKind.i64.wrap ((i:Int)+1)=(i:Int)+1:=aP (by omega) (by omega)
  have hw3:IntKind.i64.wrap ((s.length:Int) - 0)=(s.length:Int):=by rw[aP (by omega) (by omega)];omega
  have hw4:IntKind.i64.wrap (0+(g.length:Int))=(g.length:Int):=by rw[aP (by omega) (by omega)];omega
  simp only[M.Nl,M.Dp,KQ,fG,RQ,Int.toNat_natCast,hg,Option.map_some,ah,cS0,hw1,hw2,hw3,hw4,hl]
  rw[decide_eq_true (show((i:Int))<((39:Nat):Int) by omega),cond_true,decide_eq_true (show(0:Int)≥0 by omega),cond_true,decide_eq_true (show(0:Int)≤(s.length:Int) by omega),cond_true]
  by_cases hq:g.length≤s.length
  ·rw[decide_eq_true (by omega),cond_true,asH s g.length hq,ah,pre_eq g s hq,Tc]
   cases Nat.blt m g.length<;>cases g.isPrefixOf s<;>rfl
  ·rw[decide_eq_false (by omega),cond_false,aep g s (by omega),Bool.and_false]
   rfl
 ·simp only[M.Nl,M.Dp,KQ]
  rw[decide_eq_false (by omega),cond_false]
theorem Yk(a b:Tk)(ha:a.text.length≤2000000)(hb:b.text.length≤2000000):M.qN a.kind a.text a.at_ b.kind b.text b.at_=some (Dz a b):=by
 rw[Za]
 simp only[M.qN,M.FB]
 by_cases h1:a.text=[]
 ·rw[show(a.text==[])=true by simpa using h1,cond_true,cond_true]
 ·rw[show(a.text==[])=false by simpa using h1,cond_false,cond_false]
  by_cases h2:b.text=[]
  ·rw[show(b.text==[])=true by simpa using h2,cond_true,cond_true]
  ·obtain⟨c,hc,hc'⟩:=alx h1 ha
   obtain⟨d,hd,hd'⟩:=anJ h2
   have hop:=afM (a.text++b.text) (by simp[h1]) (by simp only[List.length_append];omega)
   rw[show(b.text==[])=false by simpa using h2,cond_false,cond_false,hc',hd']
   have hnn:∀(c:Bool) (r:Bool),some (bif !c then false else r)=bif c then some r else some false:=by intro c r;cases c<;>rfl
   simp only[hc,hd,ah,anK,KH,aX,hop,Tc,ge_iff_le,Vo,afG,Pq,hnn,eY (show a.text.length+b.text.length≤9223372036854775807 by omega),cond_true]
theorem room{n:Nat}(h:n≤1000000000):n.ble 140737488355328=true:=eY (by omega)
theorem Jc{n:Nat}(h:n≤1000000000):(n * 32).ble 140737488355328=true:=eY (by omega)
theorem SA{k op:Int}{x y:aF}{r:ak}{j:Nat}{p:Ps}(he:1≤k∧k≤15)(hc:Cnt k op y r.length)(hj:j<r.length)(hr:r.length≤1048576):
  M.fD k op x y r (j:Int) p.level p.kW p.o7 p.o8 p.jX=some (dZ k op r.length j p).yE:=by
 have hb:Nat.blt j r.length=true:=by rw[Nat.blt_eq];exact hj
 have hl:=Og he hc
 have hz:(lvl k op==0)=false:=by rw[beq_eq_false_iff_ne];omega
 have ho:=acA op
 have h15:(vS op==15)=false:=by rw[beq_eq_false_iff_ne];omega
 have h2:k=12→j=0∨j=1:=fun e=>by have:=hc.two (by omega);omega
 have hk:k=1∨k=2∨k=3∨k=4∨k=5∨k=6∨k=7∨k=8∨k=9∨k=10∨k=11∨k=13∨k=14∨k=15∨k=12:=by omega
 simp only[M.fD,M.Ko,(Xo p).2,aX,anH j r.length hr,hb,(Qh k op x y r).2,hz,amH,AP.2,ah,many,nb0,gt0,dZ,Bool.not_true,Bool.false_or,cond_false]
 cases lu p with
 |false=>rfl
 |true=>
  rcases hk with rfl|rfl|rfl|rfl|rfl|rfl|rfl|rfl|rfl|rfl|rfl|rfl|rfl|rfl|rfl
  case inr.inr.inr.inr.inr.inr.inr.inr.inr.inr.inr.inr.inr.inr=>
   have hl12:lvl 12 op=vS op:=rfl
   rw[hl12,h15]
   rcases h2 rfl with rfl|rfl<;>cases p.jX<;>simp[Ps.yE,Qd,show Nat.beq 1 0=false from rfl]
  all_goals(cases p.jX<;>cases hq:Nat.beq j 0<;>cases hm:Nat.blt 1 r.length<;>simp[lvl,Ps.yE,Ps.top,Qd,hq,hm])
def PS(t:Tn):Prop:=∀(o:Bool) (f:Nat) (p:Ps) (l:List Nd) (b:Nat),l.length≤1048576→Lies l b t→5 * t.size≤f→lu p=true→
 M.yV f (dP o l) false ((b+sizes t.kids:Nat):Int) p.level p.kW p.o7 p.o8 p.jX=some (kF (sF t p))
theorem aJ0{u:Tn}(hS:PS u){o:Bool}{f:Nat}{p:Ps}{l:List Nd}{b:Nat}(hl:l.length≤1048576)(h:Lies l b u)(hf:5 * u.size+1≤f)(hp:lu p=true):
  M.qV f (dP o l) false ((b+sizes u.kids:Nat):Int) p.level p.kW p.o7 p.o8 p.jX=some (kF (Uj u p)):=by
 obtain⟨g,rfl⟩:∃g,f=g+1:=⟨f - 1,by omega⟩
 have hlt:=h.lt
 have h1:=hS o g p l b hl h (by omega) hp
 have h2:=hS o g .top l b hl h (by omega) rfl
 have hb:=nV u .top
 have hr:idx (dP o l) ((b+sizes u.kids:Nat):Int)=some (KP o ⟨u.kind,u.op,u.text,u.other,ends u.kids b⟩):=by rw[fG,mV,Lies.root' h];rfl
 have e1:=(kQ 32 (by constructor<;>decide)).2
 have e2:=(kQ 33 (by constructor<;>decide)).2
 simp only[Ps.top] at h2 hb
 rw[M.aff]
 simp only[M.D9,hr,ah,EY,GX,GY,GZ,EL,(aap u.kind u.op u.text u.other _ p).2,Bool.not_false,cond_true,cond_false,Uj]
 cases fits u.kind u.op p with
 |true=>simp only[cond_true,h1,ah,dN]
 |false=>
  simp(disch:=omega) only[cond_false,e1,e2,AP.2,ah,h2,tZ,←kY,iw,List.length_append,List.length_singleton,List.length_cons,List.length_nil,room,Jc,dN,cond_true,Ps.top]
  rfl
theorem aev:∀(L:List (List Tk)) (b:Bool) (x:List Tk),BH b (L++[x])=BH b L++(bif L.isEmpty && b then x else tok 36::x)
 |[],b,x=>by cases b<;>simp[BH]
 |y::L,b,x=>by
  rw[List.cons_append,BH,BH,aev L false x]
  simp
def DI(ks:List Tn):List (List Tk):=ks.map fun u=>Uj u .top
theorem aew:∀ks:List Tn,Oy (DI ks)+2 * ks.length≤8 * sizes ks
 |[]=>by simp[DI,Oy,sizes]
 |t::ts=>by
  have h1:=aes t .top
  have h2:=aew ts
  simp only[DI,List.map_cons,Oy,sizes,List.length_cons] at h2⊢
  omega
theorem Vp(ks:List Tn)(b:Bool):(BH b (DI ks)).length≤9 * sizes ks:=by
 have h1:=Sr (DI ks) b
 have h2:=aew ks
 have h3:(DI ks).length=ks.length:=by simp[DI]
 omega
theorem acR{k op:Int}{n:Nat}{p:Ps}(ht:∀j,nI k j=false)(hq:∀j,j<n→dZ k op n j p=.top):∀(ts:List Tn) (j:Nat),j+ts.length=n→jg k op n p ts j=DI ts
 |[],j,_=>by rw[jg];rfl
 |t::ts,j,hj=>by
  rw[List.length_cons] at hj
  rw[jg,hq j (by omega),ht j,acR ht hq ts (j+1) (by omega),Bool.false_or]
  rfl
def At(l:List Nd)(b:Nat)(ks:List Tn):Prop:=∀j u,ks[j]? =some u→Lies l (b+sizes (ks.take j)) u
theorem lN{ks:List Tn}{b j:Nat}{u:Tn}(hj:ks[j]? =some u):idx (encI (ends ks b)) (j:Int)=some [D.int .i64 ((b+sizes (ks.take j)+sizes u.kids:Nat):Int)]:=by
 rw[fG,rD,afw hj]
 rfl
theorem asV{ks:List Tn}(ih:∀u,u∈ks→PS u){o:Bool}{f:Nat}{l:List Nd}{b:Nat}(hl:l.length≤1048576)(hat:At l b ks)(hf:5 * sizes ks+2≤f)(hu:sizes ks≤1048575):
  M.yT f (dP o l) false (encI (ends ks b))=some (kF (BH true (DI ks))):=by
 obtain⟨g,rfl⟩:∃g,f=g+1:=⟨f - 1,by omega⟩
 have hkl:=lQ ks
 have e1:=(kQ 36 (by constructor<;>decide)).2
 have hloop:=jC (b:=M.BZ (M.qV g) (encI (ends ks b)) (dP o l) false) (t:=((ks.length:Int),kF (BH true (DI ks)))) (fun j=>((j:Int),kF (BH true (DI (ks.take j))))) ks.length
  (by
   intro j hj
   obtain⟨u,hu'⟩:∃u,ks[j]? =some u:=⟨ks[j],by simp[hj]⟩
   have hus:=jD (List.mem_of_getElem? hu')
   have hst:=NJ hu'
   have ha:=aJ0 (ih u (List.mem_of_getElem? hu')) (o:=o) (f:=g) (p:=.top) hl (hat j u hu') (by omega) rfl
   have hi:=lN (b:=b) hu'
   have hel:=aes u .top
   have hcl:=Vp (ks.take j) true
   have hsn:BH true (DI (ks.take (j+1)))=BH true (DI (ks.take j))++(bif(DI (ks.take j)).isEmpty && true then Uj u .top else tok 36::Uj u .top):=by
    rw[lG hu',DI,List.map_append]
    exact aev _ _ _
   have hw:IntKind.i64.wrap ((j:Int)+1)=((j+1:Nat):Int):=by rw[aP (by omega) (by omega)];omega
   simp only[Ps.top] at ha hel
   rw[hsn]
   simp only[M.BZ,M.xq,dw,gZ]
   rw[decide_eq_true (by omega),cond_true]
   by_cases h0:j=0
   ·subst h0
    rw[decide_eq_false (by omega),cond_false]
    have z:(DI (ks.take 0)).isEmpty=true:=rfl
    simp(disch:=omega) only[hi,ah,Ll,AP.2,ha,←kY,iw,List.length_append,room,Jc,cond_true,hw,z,Bool.and_true,Ps.top]
   ·rw[decide_eq_true (by omega),cond_true]
    have z:(DI (ks.take j)).isEmpty=false:=by
     have hl2:(DI (ks.take j)).length=j:=by
      rw[DI,List.length_map,List.length_take]
      omega
     cases hq:DI (ks.take j) with
     |nil=>
      rw[hq,List.length_nil] at hl2
      omega
     |cons _ _=>rfl
    simp(disch:=omega) only[hi,ah,Ll,AP.2,ha,e1,tZ,←kY,iw,List.length_append,List.length_singleton,List.length_cons,List.length_nil,room,Jc,cond_true,cond_false,hw,z,Bool.false_and,Ps.top]
    simp)
  (by
   simp only[M.BZ,M.xq,dw,gZ]
   rw[decide_eq_false (by omega),cond_false,List.take_length]) 0 (Nat.zero_le _)
 have e0:kF (BH true (DI (ks.take 0)))=[]:=rfl
 rw[qH,e0] at hloop
 rw[M.abB]
 simp only[M.yS,M.Fz,hloop,ah,dN,cond_true]
theorem Ul{ks:List Tn}(ih:∀u,u∈ks→PS u){o:Bool}{f:Nat}{l:List Nd}{b:Nat}{k op:Int}{x y:aF}{p:Ps}{j:Nat}{u:Tn}(he:1≤k∧k≤15)(hc:Cnt k op y ks.length)(hp:lu p=true)(hl:l.length≤1048576)(hat:At l b ks)(hf:5 * sizes ks+1≤f)(hu:sizes ks≤1048575)(hj:ks[j]? =some u)(ht:nI k j=false):
  (idx (encI (ends ks b)) (j:Int)=some [D.int .i64 ((b+sizes (ks.take j)+sizes u.kids:Nat):Int)]∧
   M.fD k op x y (encI (ends ks b)) (j:Int) p.level p.kW p.o7 p.o8 p.jX=some (dZ k op ks.length j p).yE∧
   M.qV f (dP o l) false ((b+sizes (ks.take j)+sizes u.kids:Nat):Int) (dZ k op ks.length j p).yE.1 (dZ k op ks.length j p).yE.2.1 (dZ k op ks.length j p).yE.2.2.1 (dZ k op ks.length j p).yE.2.2.2.1 (dZ k op ks.length j p).yE.2.2.2.2=some (kF (qY k op ks.length p j u)))∧(qY k op ks.length p j u).length+2≤8 * u.size:=by
 have hkl:=lQ ks
 have hus:=jD (List.mem_of_getElem? hj)
 have hjl:j<ks.length:=(List.getElem?_eq_some_iff.1 hj).1
 have hen:(encI (ends ks b)).length=ks.length:=by rw[dw,gZ]
 have hlv:lvl k op≠0:=by have:=Og he hc;omega
 refine⟨⟨lN hj, ?_, ?_⟩,Ja (nV u)⟩
 ·have h:=SA (x:=x) (r:=encI (ends ks b)) (j:=j) (p:=p) he (by rw[hen];exact hc) (by omega) (by omega)
  rw[hen] at h
  exact h
 ·have h:=aJ0 (ih u (List.mem_of_getElem? hj)) (o:=o) (f:=f) (p:=dZ k op ks.length j p) hl (hat j u hj) (by omega) (sG hp hjl hlv)
  rw[qY,ht,Bool.false_or]
  exact h
theorem afN{ks:List Tn}(ih:∀u,u∈ks→PS u){o:Bool}{f:Nat}{l:List Nd}{b:Nat}(hl:l.length≤1048576)(hat:At l b ks)(hf:5 * sizes ks+3≤f)(hu:sizes ks≤1048575)(t':Int)(x:aF)(c:Int)(hop:c=32∨c=34):
  M.AY f (dP o l) false t' x 0 (encI (ends ks b)) c=some (kF (⟨t',x,0⟩::tok c::(BH true (DI ks)++[tok (c+1)]))):=by
 obtain⟨g,rfl⟩:∃g,f=g+1:=⟨f - 1,by omega⟩
 have h1:=asV ih (o:=o) (f:=g) (b:=b) hl hat (by omega) hu
 have h2:=Vp ks true
 have e1:=(kQ c (by rcases hop with rfl|rfl<;>constructor<;>decide)).2
 have e2:=(kQ (c+1) (by rcases hop with rfl|rfl<;>constructor<;>decide)).2
 have e3:IntKind.i64.wrap (c+1)=c+1:=by rcases hop with rfl|rfl<;>rfl
 have hr:([[D.int .i64 t',D.str x,D.int .i64 0],[D.int .i64 c,D.str (spell c),D.int .i64 0]]:ak)=kF [⟨t',x,0⟩,tok c]:=rfl
 rw[M.ZB]
 simp(disch:=omega) only[M.vW,e1,e2,e3,h1,ah,hr,tZ (c+1),←kY,iw,List.length_append,List.length_singleton,List.length_cons,List.length_nil,room,Jc,dN,cond_true]
 simp
theorem acS{u:Tn}(hS:PS u)(hok:ED u)(he:RX u)(hh:13≤lvl u.kind u.op){o:Bool}{f:Nat}{l:List Nd}{b:Nat}(hl:l.length≤1048576)(h:Lies l b u)(hf:5 * u.size+1≤f)(p:Ps)(hp:lu p=true):
  M.yU f (dP o l) false ((b+sizes u.kids:Nat):Int)=some (kF (sF u p)):=by
 obtain⟨g,rfl⟩:∃g,f=g+1:=⟨f - 1,by omega⟩
 have h1:=hS o g ⟨14,false,false,false,false⟩ l b hl h (by omega) rfl
 rw[amF u hok hh he _ p rfl hp] at h1
 rw[M.XZ]
 simp only[M.uH,h1,ah,dN,cond_true]
theorem SB(k:Int)(h:k=12∨k=14∨k=6∨k=11∨k=13)(j:Nat):nI k j=false:=by rcases h with rfl|rfl|rfl|rfl|rfl<;>simp[nI]
theorem anT{ks:List Tn}(ih:∀u,u∈ks→PS u){o:Bool}{f:Nat}{l:List Nd}{b:Nat}{k op:Int}{x y:aF}{p:Ps}(hk:k=12∨k=14)(hc:Cnt k op y ks.length)(hp:lu p=true)(hl:l.length≤1048576)(hat:At l b ks)(hf:5 * sizes ks+2≤f)(hu:sizes ks≤1048575):
  M.AZ f (dP o l) false k op x y (encI (ends ks b)) p.level p.kW p.o7 p.o8 p.jX=some (kF (CX k op ks.length x (jg k op ks.length p ks 0))):=by
 obtain⟨g,rfl⟩:∃g,f=g+1:=⟨f - 1,by omega⟩
 rw[M.ZC]
 rcases hk with rfl|rfl
 ·obtain⟨u,v,rfl⟩:=Gz (hc.two (by omega))
  have hsz:=sz2 u v
  obtain⟨⟨a1,a2,a3⟩,a4⟩:=Ul ih (o:=o) (f:=g) (b:=b) (k:=12) (op:=op) (x:=x) (y:=y) (p:=p) (j:=0) (u:=u) (by omega) hc hp hl hat (by omega) hu rfl (SB 12 (by omega) 0)
  obtain⟨⟨b1,b2,b3⟩,b4⟩:=Ul ih (o:=o) (f:=g) (b:=b) (k:=12) (op:=op) (x:=x) (y:=y) (p:=p) (j:=1) (u:=v) (by omega) hc hp hl hat (by omega) hu rfl (SB 12 (by omega) 1)
  rw[qH] at a1 a2
  rw[Qi] at b1 b2
  generalize (dZ 12 op [u,v].length 0 p).yE=q0 at a2 a3
  generalize hk0:qY 12 op [u,v].length p 0 u=K0 at a3 a4
  generalize (dZ 12 op [u,v].length 1 p).yE=q1 at b2 b3
  generalize hk1:qY 12 op [u,v].length p 1 v=K1 at b3 b4
  rw[Sv,hk0,hk1]
  by_cases h99:op=99
  ·have e99:(op !=99)=false:=by simp[h99]
   simp(disch:=omega) only[M.pY,a1,a2,a3,b1,b2,b3,Ll,ah,Int.reduceBEq,e99,cond_false,←kY,iw,List.length_append,List.length_singleton,List.length_cons,List.length_nil,room,Jc,dN,cond_true]
   simp[CX,xQ,h99]
  ·have e99:(op !=99)=true:=by simpa using h99
   have e98:(op==99)=false:=by simpa using h99
   have e1:=(kQ op (aas (hc.bin rfl).1)).2
   simp(disch:=omega) only[M.pY,a1,a2,a3,b1,b2,b3,e1,Ll,ah,Int.reduceBEq,e99,cond_false,tZ,←kY,iw,List.length_append,List.length_singleton,List.length_cons,List.length_nil,room,Jc,dN,cond_true]
   simp[CX,xQ,e98]
 ·obtain⟨u,v,z,rfl⟩:=Pv (hc.three rfl)
  have hsz:=sz3 u v z
  obtain⟨⟨a1,a2,a3⟩,a4⟩:=Ul ih (o:=o) (f:=g) (b:=b) (k:=14) (op:=op) (x:=x) (y:=y) (p:=p) (j:=0) (u:=u) (by omega) hc hp hl hat (by omega) hu rfl (SB 14 (by omega) 0)
  obtain⟨⟨b1,b2,b3⟩,b4⟩:=Ul ih (o:=o) (f:=g) (b:=b) (k:=14) (op:=op) (x:=x) (y:=y) (p:=p) (j:=1) (u:=v) (by omega) hc hp hl hat (by omega) hu rfl (SB 14 (by omega) 1)
  obtain⟨⟨c1,c2,c3⟩,c4⟩:=Ul ih (o:=o) (f:=g) (b:=b) (k:=14) (op:=op) (x:=x) (y:=y) (p:=p) (j:=2) (u:=z) (by omega) hc hp hl hat (by omega) hu rfl (SB 14 (by omega) 2)
  rw[qH] at a1 a2
  rw[Qi] at b1 b2
  rw[ao6] at c1 c2
  generalize (dZ 14 op [u,v,z].length 0 p).yE=q0 at a2 a3
  generalize hk0:qY 14 op [u,v,z].length p 0 u=K0 at a3 a4
  generalize (dZ 14 op [u,v,z].length 1 p).yE=q1 at b2 b3
  generalize hk1:qY 14 op [u,v,z].length p 1 v=K1 at b3 b4
  generalize (dZ 14 op [u,v,z].length 2 p).yE=q2 at c2 c3
  generalize hk2:qY 14 op [u,v,z].length p 2 z=K2 at c3 c4
  rw[asK,hk0,hk1,hk2]
  have e1:=(kQ 65 (by constructor<;>decide)).2
  have e2:=(kQ 66 (by constructor<;>decide)).2
  simp(disch:=omega) only[M.pY,a1,a2,a3,b1,b2,b3,c1,c2,c3,e1,e2,Ll,ah,Int.reduceBEq,cond_false,tZ,←kY,iw,List.length_append,List.length_singleton,List.length_cons,List.length_nil,room,Jc,dN,cond_true]
  simp[CX,xQ]
theorem aau{k op:Int}{ks:List Tn}{p:Ps}(hp:lu p=true)(h:(lvl k op=15)∨(k=13∧Nat.blt 1 ks.length=true∧lvl k op≠0))(ht:∀j,nI k j=false):jg k op ks.length p ks 0=DI ks:=by
 refine acR ht (fun j hj=> ?_) ks 0 (by omega)
 rcases h with h|⟨h1,h2,h3⟩
 ·exact DC hp hj h
 ·have hb:Nat.blt j ks.length=true:=by rw[Nat.blt_eq];exact hj
  have h4:(lvl k op==0)=false:=by simpa using h3
  subst h1
  unfold dZ
  rw[hp,hb,h4,h2]
  simp
theorem aav(k:Int)(x:aF):([[D.int .i64 k,D.str x,D.int .i64 0]]:ak)=kF [⟨k,x,0⟩]:=rfl
theorem alB(x:aF):([[D.int .i64 24,D.str (spell 24),D.int .i64 0],[D.int .i64 6,D.str x,D.int .i64 0]]:ak)=kF [tok 24,⟨6,x,0⟩]:=rfl
set_option maxHeartbeats 2000000 in
theorem ao8(t:Tn):ED t→RX t→t.size≤1048576→PS t:=by
 refine Tn.ind (P:=fun t=>ED t→RX t→t.size≤1048576→PS t) ?_ t
 intro k op x y ks ih hok he hsz
 intro o f p l b hl h hf hp
 have aTH:=h
 simp only[RX,Tn.kind] at he
 have hc:=Lu hok
 have hsz':sizes ks+1=(Tn.mk k op x y ks).size:=by rw[Tn.size]
 have ih':∀u,u∈ks→PS u:=by
  intro u hu
  obtain⟨i,hi⟩:=List.mem_iff_getElem?.1 hu
  obtain⟨h1,h2⟩:=Xm hok he hi
  have:=jD hu
  exact ih u hu h2 h1 (by omega)
 have hat:At l b ks:=fun j u hj=>Lies.Vg h hj
 obtain⟨g,rfl⟩:∃g,f=g+1:=⟨f - 1,by omega⟩
 have hr:idx (dP o l) ((b+sizes ks:Nat):Int)=some (KP o ⟨k,op,x,y,ends ks b⟩):=by
  have hr0:l[b+sizes ks]? =some ⟨k,op,x,y,ends ks b⟩:=Lies.root' h
  rw[fG,mV,hr0];rfl
 have hkl:=lQ ks
 have tgt:∀{u:Tn},ks[0]? =some u→cls k op ks.length 0=6→ED u∧RX u∧13≤lvl u.kind u.op:=by
  intro u hu hcls
  obtain⟨h1,h2⟩:=Xm hok he hu
  obtain⟨h3,_⟩:=Ls hok hu
  rw[hcls] at h3
  exact⟨h2,h1,(afF h3).1⟩
 rw[M.abC,Tn.kids]
 have hk:k=1∨k=2∨k=3∨k=4∨k=5∨k=7∨k=8∨k=6∨k=9∨k=10∨k=11∨k=13∨k=15∨k=12∨k=14:=by omega
 rw[sF]
 rcases hk with rfl|rfl|rfl|rfl|rfl|rfl|rfl|rfl|rfl|rfl|rfl|rfl|rfl|rfl|rfl
 ·simp only[M.fV,hr,ah,EY,GX,GY,GZ,EL,M.dJ,M.dD,Int.reduceBEq,Int.reduceBNe,cond_true,cond_false,aav]
  rfl
 ·simp only[M.fV,hr,ah,EY,GX,GY,GZ,EL,M.dJ,M.dD,Int.reduceBEq,Int.reduceBNe,cond_true,cond_false,aav]
  rfl
 ·simp only[M.fV,hr,ah,EY,GX,GY,GZ,EL,M.dJ,M.dD,Int.reduceBEq,Int.reduceBNe,cond_true,cond_false,aav]
  rfl
 ·simp only[M.fV,hr,ah,EY,GX,GY,GZ,EL,M.dJ,M.dD,Int.reduceBEq,Int.reduceBNe,cond_true,cond_false,aav]
  rfl
 ·have a1:=afN ih' (o:=o) (f:=g) (b:=b) hl hat (by omega) (by omega) 6 x 34 (.inr rfl)
  rw[aau hp (.inl rfl) (fun j=>by simp[nI])]
  simp only[M.fV,hr,ah,EY,GX,GY,GZ,EL,M.dJ,M.dD,Int.reduceBEq,Int.reduceBNe,cond_true,cond_false,a1,dN]
  rfl
 ·have a1:=afN ih' (o:=o) (f:=g) (b:=b) hl hat (by omega) (by omega) 7 x 32 (.inl rfl)
  rw[aau hp (.inl rfl) (fun j=>by simp[nI])]
  simp only[M.fV,hr,ah,EY,GX,GY,GZ,EL,M.dJ,M.dD,Int.reduceBEq,Int.reduceBNe,cond_true,cond_false,a1,dN]
  rfl
 ·have a1:=afN ih' (o:=o) (f:=g) (b:=b) hl hat (by omega) (by omega) 8 x 32 (.inl rfl)
  rw[aau hp (.inl rfl) (fun j=>by simp[nI])]
  simp only[M.fV,hr,ah,EY,GX,GY,GZ,EL,M.dJ,M.dD,Int.reduceBEq,Int.reduceBNe,cond_true,cond_false,a1,dN]
  rfl
 ·obtain⟨u,rfl⟩:=List.length_eq_one_iff.1 (hc.one (by omega))
  have hs1:=Zb u
  have e1:=(kQ 68 (by constructor<;>decide)).2
  obtain⟨⟨a1,a2,a3⟩,a4⟩:=Ul ih' (o:=o) (f:=g) (b:=b) (k:=6) (op:=op) (x:=x) (y:=y) (p:=p) (j:=0) (u:=u) (by omega) hc hp hl hat (by omega) (by omega) rfl (SB 6 (by omega) 0)
  rw[qH] at a1 a2
  rw[LC]
  generalize (dZ 6 op [u].length 0 p).yE=q0 at a2 a3
  generalize qY 6 op [u].length p 0 u=K0 at a3 a4⊢
  simp(disch:=omega) only[M.fV,hr,ah,EY,GX,GY,GZ,EL,M.dJ,M.dD,Int.reduceBEq,Int.reduceBNe,cond_true,cond_false,a1,a2,a3,e1,Ll,tZ,←kY,iw,List.length_append,List.length_singleton,List.length_cons,List.length_nil,room,Jc,dN]
  simp[CX,xQ]
 ·obtain⟨u,rfl⟩:=List.length_eq_one_iff.1 (hc.one (by omega))
  have hs1:=Zb u
  have e1:=(kQ op (by rcases hc.stp (by omega) with rfl|rfl<;>constructor<;>decide)).2
  have a1:=lN (ks:=[u]) (b:=b) (j:=0) (u:=u) rfl
  obtain⟨t1,t2,t3⟩:=tgt (u:=u) rfl (by simp[cls])
  have a3:=acS (ih' u (by simp)) t1 t2 t3 (o:=o) (f:=g) (p:=dZ 9 op [u].length 0 p) hl (hat 0 u rfl) (by rw[Zb] at hsz';omega) (sG hp (by simp) (by simp[lvl]))
  have a4:=nV u (dZ 9 op [u].length 0 p)
  rw[Zb] at hsz'
  rw[qH] at a1
  rw[LC,qY,show nI 9 0=true from rfl,Bool.true_or,cond_true]
  generalize sF u (dZ 9 op [u].length 0 p)=K0 at a3 a4⊢
  simp(disch:=omega) only[M.fV,hr,ah,EY,GX,GY,GZ,EL,M.dJ,M.dD,Int.reduceBEq,Int.reduceBNe,cond_true,cond_false,a1,a3,e1,Ll,tZ,←kY,iw,List.length_append,List.length_singleton,List.length_cons,List.length_nil,room,Jc,dN]
  simp[CX,xQ]
 ·obtain⟨u,rfl⟩:=List.length_eq_one_iff.1 (hc.one (by omega))
  have hs1:=Zb u
  have e1:=(kQ op (by rcases hc.stp (by omega) with rfl|rfl<;>constructor<;>decide)).2
  have a1:=lN (ks:=[u]) (b:=b) (j:=0) (u:=u) rfl
  obtain⟨t1,t2,t3⟩:=tgt (u:=u) rfl (by simp[cls])
  have a3:=acS (ih' u (by simp)) t1 t2 t3 (o:=o) (f:=g) (p:=dZ 10 op [u].length 0 p) hl (hat 0 u rfl) (by rw[Zb] at hsz';omega) (sG hp (by simp) (by simp[lvl]))
  have a4:=nV u (dZ 10 op [u].length 0 p)
  rw[Zb] at hsz'
  rw[qH] at a1
  rw[LC,qY,show nI 10 0=true from rfl,Bool.true_or,cond_true]
  generalize sF u (dZ 10 op [u].length 0 p)=K0 at a3 a4⊢
  simp(disch:=omega) only[M.fV,hr,ah,EY,GX,GY,GZ,EL,M.dJ,M.dD,Int.reduceBEq,Int.reduceBNe,cond_true,cond_false,a1,a3,e1,Ll,tZ,←kY,iw,List.length_append,List.length_singleton,List.length_cons,List.length_nil,room,Jc,dN]
  simp[CX,xQ]
 ·obtain⟨u,rfl⟩:=List.length_eq_one_iff.1 (hc.one (by omega))
  have hs1:=Zb u
  have e1:=(kQ op (by rcases hc.una (by omega) with rfl|rfl|rfl<;>constructor<;>decide)).2
  obtain⟨⟨a1,a2,a3⟩,a4⟩:=Ul ih' (o:=o) (f:=g) (b:=b) (k:=11) (op:=op) (x:=x) (y:=y) (p:=p) (j:=0) (u:=u) (by omega) hc hp hl hat (by omega) (by omega) rfl (SB 11 (by omega) 0)
  rw[qH] at a1 a2
  rw[LC]
  generalize (dZ 11 op [u].length 0 p).yE=q0 at a2 a3
  generalize qY 11 op [u].length p 0 u=K0 at a3 a4⊢
  simp(disch:=omega) only[M.fV,hr,ah,EY,GX,GY,GZ,EL,M.dJ,M.dD,Int.reduceBEq,Int.reduceBNe,cond_true,cond_false,a1,a2,a3,e1,Ll,tZ,←kY,iw,List.length_append,List.length_singleton,List.length_cons,List.length_nil,room,Jc,dN]
  simp[CX,xQ]
 ·have e1:=(kQ 24 (by constructor<;>decide)).2
  have e2:=(kQ 32 (by constructor<;>decide)).2
  have e3:=(kQ 33 (by constructor<;>decide)).2
  obtain⟨u,hu⟩:∃u,ks[0]? =some u:=by
   have:=hc.some_ (by omega)
   exact⟨ks[0],by simp⟩
  obtain⟨⟨a1,a2,a3⟩,a4⟩:=Ul ih' (o:=o) (f:=g) (b:=b) (k:=13) (op:=op) (x:=x) (y:=y) (p:=p) (j:=0) (u:=u) (by omega) hc hp hl hat (by omega) (by omega) hu (SB 13 (by omega) 0)
  have hus:=jD (List.mem_of_getElem? hu)
  rw[qH] at a1 a2
  have hel:(encI (ends ks b)).length=ks.length:=by rw[dw,gZ]
  cases hm:Nat.blt 1 ks.length with
  |true=>
   have b1:=asV ih' (o:=o) (f:=g) (b:=b) hl hat (by omega) (by omega)
   have b2:=Vp ks true
   rw[aau hp (.inr ⟨rfl,hm,by simp[lvl]⟩) (fun j=>by simp[nI])]
   simp(disch:=omega) only[M.fV,hr,ah,EY,GX,GY,GZ,EL,M.dJ,M.dD,Int.reduceBEq,Int.reduceBNe,cond_true,cond_false,a1,a2,a3,b1,e1,e2,e3,Ll,hel,many,hm,alB,tZ 32,tZ 33,←kY,iw,List.length_append,List.length_singleton,List.length_cons,List.length_nil,room,Jc,dN]
   simp[CX,hm]
  |false=>
   have h1:ks.length=1:=by
    have h2:=hc.some_ (by omega)
    have h3:¬1<ks.length:=by rw[←Nat.blt_eq,hm];simp
    omega
   obtain⟨u',rfl⟩:=List.length_eq_one_iff.1 h1
   obtain rfl:u'=u:=by simpa using hu
   rw[LC]
   generalize (dZ 13 op [u'].length 0 p).yE=q0 at a2 a3
   generalize qY 13 op [u'].length p 0 u'=K0 at a3 a4⊢
   simp(disch:=omega) only[M.fV,hr,ah,EY,GX,GY,GZ,EL,M.dJ,M.dD,Int.reduceBEq,Int.reduceBNe,cond_true,cond_false,a1,a2,a3,e1,e2,e3,Ll,hel,many,hm,alB,←kY,iw,List.length_append,List.length_singleton,List.length_cons,List.length_nil,room,Jc,dN]
   simp[CX,xQ,show Nat.blt 1 1=false from rfl]
 ·obtain⟨u,v,rfl⟩:=Gz (hc.two (by omega))
  have hsv:=sz2 u v
  have e1:=(kQ op (by rcases hc.asg rfl with rfl|h<;>constructor<;>omega)).2
  have a1:=lN (ks:=[u,v]) (b:=b) (j:=0) (u:=u) rfl
  obtain⟨t1,t2,t3⟩:=tgt (u:=u) rfl (by simp[cls])
  have a3:=acS (ih' u (by simp)) t1 t2 t3 (o:=o) (f:=g) (p:=dZ 15 op [u,v].length 0 p) hl (hat 0 u rfl) (by omega) (sG hp (by simp) (by simp[lvl]))
  have a4:=nV u (dZ 15 op [u,v].length 0 p)
  obtain⟨⟨b1,b2,b3⟩,b4⟩:=Ul ih' (o:=o) (f:=g) (b:=b) (k:=15) (op:=op) (x:=x) (y:=y) (p:=p) (j:=1) (u:=v) (by omega) hc hp hl hat (by omega) (by omega) rfl rfl
  rw[qH] at a1
  rw[Qi] at b1 b2
  have e98:(op==99)=false:=by rw[beq_eq_false_iff_ne];have:=hc.asg rfl;omega
  rw[Sv]
  conv=>rhs;rw[qY,show nI 15 0=true from rfl,Bool.true_or,cond_true]
  generalize sF u (dZ 15 op [u,v].length 0 p)=K0 at a3 a4⊢
  generalize (dZ 15 op [u,v].length 1 p).yE=q1 at b2 b3
  generalize qY 15 op [u,v].length p 1 v=K1 at b3 b4⊢
  simp(disch:=omega) only[M.fV,hr,ah,EY,GX,GY,GZ,EL,M.dJ,M.dD,Int.reduceBEq,Int.reduceBNe,cond_true,cond_false,a1,a3,b1,b2,b3,e1,Ll,tZ,←kY,iw,List.length_append,List.length_singleton,List.length_cons,List.length_nil,room,Jc,dN]
  simp[CX,xQ,e98]
 ·have a1:=anT ih' (o:=o) (f:=g) (b:=b) (k:=12) (op:=op) (x:=x) (y:=y) (p:=p) (.inl rfl) hc hp hl hat (by omega) (by omega)
  simp only[M.fV,hr,ah,EY,GX,GY,GZ,EL,M.dJ,M.dD,Int.reduceBEq,Int.reduceBNe,cond_true,cond_false,a1,dN]
 ·have a1:=anT ih' (o:=o) (f:=g) (b:=b) (k:=14) (op:=op) (x:=x) (y:=y) (p:=p) (.inr rfl) hc hp hl hat (by omega) (by omega)
  simp only[M.fV,hr,ah,EY,GX,GY,GZ,EL,M.dJ,M.dD,Int.reduceBEq,Int.reduceBNe,cond_true,cond_false,a1,dN]
end Go.Proofs.YtbpldgeajbfgnaaGreatDoor
