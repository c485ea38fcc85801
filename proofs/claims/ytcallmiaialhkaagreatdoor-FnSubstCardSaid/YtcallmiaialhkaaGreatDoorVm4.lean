import Derived.Test.YtcallmiaialhkaaGreatDoorVm3
import Derived.IntWalk
set_option linter.defProp false
set_option linter.unusedVariables false
set_option linter.unusedSimpArgs false
namespace Go.Vm
open Go
open Go.IntKind (i64)
def afJ{H:Heap}{h:View}{row:Row}{cs:List Value}{N:List Nat}{j:Nat}{x:D}(q:dF H h row cs N)(hx:row[j]? =some x):
  ∃g Na N1 Nb,cs[j]? =some g/\N=Na++N1++Nb/\ow H h x g N1/\
   ∀(H':Heap) (h':View) (x':D) (N':List Nat),h.le h'->(∀b,b∈Na++Nb->H' b=H b)->ow H' h' x' g N'->dF H' h' (splice row j [x']) cs (Na++N'++Nb):=by
 obtain⟨e1,e2⟩:=uO (b:=x) hx;have hjl:=(FK.1 hx).1;rw[e2] at q;obtain⟨Na,Nr,rfl,qa,qr⟩:=mg.1 q;have l1:(row.take j).length=j:=by simp;omega
 rw[l1] at qr;simp only[dF] at qr;obtain⟨g,cs',N1,Nb,ec,rfl,q1,qb⟩:=qr;refine⟨g,Na,N1,Nb, ?_,by simp,q1, ?_⟩
 ·have:(cs.drop j)[0]? =some g:=by rw[ec];rfl
  simpa using this
 ·intro H' h' x' N' hl hH q';have hs:splice row j [x']=row.take j++(x'::row.drop (j+1)):=by simp[splice]
  rw[hs,BD,mg];refine⟨Na,N'++Nb,rfl,rM hl _ _ _ (λb hb=>hH b (by simp[hb])) qa, ?_⟩;rw[l1,ec];simp only[dF];exact⟨g,cs',N',Nb,rfl,rfl,q',rM hl _ _ _ (λb hb=>hH b (by simp[hb])) qb⟩
def aeh{H:Heap}{h:View}{s:Nat}{rows:List Row}{cs:List Value}{N:List Nat}{i:Nat}{row:Row}(q:cO H h s rows cs N)(hi:rows[i]? =some row):
  ∃Na N1 Nb,N=Na++N1++Nb/\row.length=s/\dF H h row (cs.drop (i * s)) N1/\
   ∀(H':Heap) (h':View) (row':Row) (N':List Nat),h.le h'->(∀b,b∈Na++Nb->H' b=H b)->row'.length=s->dF H' h' row' (cs.drop (i * s)) N'->cO H' h' s (rows.set i row') cs (Na++N'++Nb):=by
 have hil:=(FK.1 hi).1;have e2:=(uO (b:=row) hi).2;rw[e2] at q;obtain⟨Na,Nr,rfl,qa,qr⟩:=mD.1 q;have l1:(rows.take i).length=i:=by simp;omega
 rw[l1] at qr;simp only[cO] at qr;obtain⟨hl,N1,Nb,rfl,q1,qb⟩:=qr;refine⟨Na,N1,Nb,by simp,hl,q1, ?_⟩;intro H' h' row' N' hle hH hl' q';rw[(uO (b:=row') hi).1,BD,mD];refine⟨Na,N'++Nb,rfl,mY hle s _ _ _ (λb hb=>hH b (by simp[hb])) qa, ?_⟩;rw[l1];simp only[cO];exact⟨hl',N',Nb,rfl,q',mY hle s _ _ _ (λb hb=>hH b (by simp[hb])) qb⟩
def YV{e:Nat}{fl:Bool}{out:List Row×List Cell}{q:IntKind×Int×Bool×Nat×List Row}(h:O1 out=some q)(hc:Ue e fl q=true):
  out=([[.int q.1 q.2.1]],[.arr false fl 0 e q.2.2.2.2])/\Ky fl q.2.2.2.2=true/\zN q.2.2.2.2=true:=by
 unfold O1 at h;split at h
 ·rename_i k n fl' s' rs';simp only[dG] at h;subst h;simp only[Ue,su,beq_iff_eq] at hc;obtain⟨h1,rfl,h3,h4⟩:=hc;have h1:=lq h1;subst h1;exact⟨rfl,h3,h4⟩
 ·cases h
section
variable {base:Nat} {U:Nat->Prop} {M0:List Nat} {w0 w:World} {ν:Nat->Value} {M:Mem} {nt:Nat} {S S':St} {G:GS} {a:Act} {X:Ctx} {K:fM} {fn:Nat}
def abY{args:Array Operand}{d1 d2:Nat}(h:ac3 args d1 d2=true):args=#[.tmp d1,.tmp d2]:=by
 unfold ac3 at h;split at h
 ·rename_i a b he;simp only[su] at h;have h1:=lq h.1;have h2:=lq h.2;subst h1;subst h2;cases args;simp at he;rw[he]
 ·cases h
def ahJ(hK:Ld X K U M0 w0)(R:Rel base U M0 w0 ν M nt w S G a){ops:Array Oper}{p:Nat}{rest:List Nat}{Q:Exit->Act->World->Prop}(hnt:yQ X.P fn=nt)(h:yR X K fn ops p S=some S')
  (hn:∀w' G' a',Rel base U M0 w0 ν M nt w' S' G' a'->(Gh U w G).le (Gh U w' G')->wpOps X.P ops Q rest a' w'):wpOps X.P ops Q (p::(p+1)::(p+2)::rest) a w:=by
 simp only[yR] at h;cases ho1:ops[p]? with
 |none=>simp[ho1] at h
 |some o1=>
 cases ho2:ops[p+1]? with
 |none=>simp[ho1,ho2] at h
 |some o2=>
 cases ho3:ops[p+2]? with
 |none=>simp[ho1,ho2,ho3] at h
 |some o3=>
 simp only[ho1,ho2,ho3] at h;cases hr:(FN X K S.tm o1 o2 o3).run S.mem .none with
 |none=>simp[hr] at h
 |some r=>
 obtain⟨⟨d1,d2,kv,v⟩,m',l'⟩:=r;simp only[hr] at h;cases hd:(Nat.blt d1 (yQ X.P fn) &&(Nat.blt d2 (yQ X.P fn) && DJ (yQ X.P fn) o3.dst)) with
 |false=>simp[hd] at h
 |true=>
 simp only[hd,bZ,dG] at h;subst h;simp only[su] at hd;obtain⟨hd1,hd2,hd3⟩:=hd;rw[hnt] at hd1 hd2 hd3;rw[Nat.blt_eq] at hd1 hd2;unfold FN at hr;split at hr
 case h_2=>exact(ak hr).elim
 case h_1 d1' t ta ty1 p1 af1 d2' x ty2 p2 af2 ao9 f args tys ty3 p3 af3=>
 replace hr:=ah hr;obtain⟨_,m1,l1,h1,hr⟩:=hr;obtain⟨hck,rfl,rfl⟩:=bG h1;simp only[su,Bool.not_eq_true'] at hck;obtain⟨hne,hargs,hoff,hok,hsz,hagg,hf⟩:=hck;have hargs:=abY hargs;subst hargs;replace hr:=ah hr;obtain⟨e,m1,l1,h1,hr⟩:=hr;obtain⟨he,rfl,rfl⟩:=dn h1;split at hr
 case h_2=>exact(ak hr).elim
 case h_1 r ver i off k n hga hkv=>
 replace hr:=ah hr;obtain⟨c,m2,l2,h2,hr⟩:=hr;rw[jV] at h2;cases h2;cases hc:get r S.mem with
 |none=>rw[hc] at hr;exact(ak hr).elim
 |some c=>
 rw[hc] at hr;split at hr
 case h_2=>exact(ak hr).elim
 case h_1 _ dP s rows hcc=>
 cases hcc;replace hr:=ah hr;obtain⟨_,m2,l2,h2,hr⟩:=hr;obtain⟨hv,rfl,rfl⟩:=bG h2;simp only[su] at hv;have UF:=lq hv.1;subst UF;have apa:=Nat.le_of_ble_eq_true hv.2;replace hr:=ah hr;obtain⟨row,m2,l2,h2,hr⟩:=hr;obtain⟨hrow,rfl,rfl⟩:=dn h2;replace hr:=ah hr;obtain⟨rs,m2,l2,h2,hr⟩:=hr;obtain⟨hown,rfl,rfl⟩:=dn h2;replace hr:=ah hr;obtain⟨_,m2,l2,h2,hr⟩:=hr;obtain⟨hout1,rfl,rfl⟩:=bG h2;replace hr:=ah hr;obtain⟨out,m2,l2,h2,hr⟩:=hr;obtain⟨hKc,rfl,rfl⟩:=dn h2;replace hr:=ah hr;obtain⟨q,m2,l2,h2,hr⟩:=hr;obtain⟨hq,rfl,rfl⟩:=dn h2;replace hr:=ah hr;obtain⟨_,m2,l2,h2,hr⟩:=hr;obtain⟨hqc,rfl,rfl⟩:=bG h2;obtain⟨rfl,hout2,hpure⟩:=YV hq hqc;replace hr:=ah hr;obtain⟨_,m2,l2,h2,hr⟩:=hr;rw[nS] at h2;cases h2;simp only[run_pure,dG,eH] at hr;obtain⟨⟨rfl,rfl,rfl,rfl⟩,rfl,_⟩:=hr;have ha:=Jb (P:=X.P) R.tm 0 (.tmp ta);simp only[ev] at ha;rw[hga] at ha;simp only[aC,hc] at ha;obtain⟨_,_,at1⟩:=ha;obtain⟨b,n0,cap0,hμ,at6⟩:=at1 trivial;have hcell:KD (aX w) (Gh U w G) false s rows (G.μ r) (G.F r):=R.at_.ok.cell r _ hc (by rw[R.at_.out];simp);rcases hcell with⟨hnil,_,_⟩|⟨b',cap,cs,tt,N',hμ',hcap,hH,hsize,hrows,hF⟩
 ·rw[hnil] at hrow;simp at hrow
 rw[hμ] at hμ';simp only[Value.slice.injEq,dG,Addr.mk.injEq] at hμ';obtain⟨⟨rfl,_,_⟩,rfl,rfl⟩:=hμ';simp only at hrows;obtain⟨Na,aD9,Nb,hN',hlen,at7,putRow⟩:=aeh hrows hrow;have hx1:=N9 (by simpa[TU] using hown);have hx:row[off]? =some (.sl true (iM X.P e) rs):=YO hx1 (by simp);obtain⟨g,Qs,Nc,Qu,hcs,apb,qow,ahK⟩:=afJ at7 hx;have hcs':cs.toList[i * s+off]? =some g:=by simpa using hcs
 have al4:w.cell? ⟨b,i * s+off,none⟩=some g:=by have:=full_cell hH (i * s+off);rw[hcs'] at this;exact this
 have aua:=lq hsz;have hload:(Instr.loadAt t (a.eval (.tmp ta))).run X.P w=.ok g w:=by
  rw[at6];refine yh (cs:=[g]) hok (by rw[aua];rfl) (λj v hj=> ?_) (by simp[valOf,hagg]);cases j with
  |zero=>simp only[List.getElem?_cons_zero,dG] at hj;subst hj;simpa using al4
  |succ j=>simp at hj
 have R1:=R.put (v:=.undef) (g:=g) (dst:=some d1') R.at_.nx trivial (by simpa[DJ] using hd1);have aub:ev X.P (put d1' .undef S.tm) ty2 x=.d (.int k n):=by
  rw[<-hkv];cases x with
  |tmp j=>simp only[alR,Bool.not_eq_true'] at hoff;simp only[ev,IY];rw[eU];intro e;subst e;simp at hoff
  |_=>rfl
 have hm1:=Jb (P:=X.P) R1.tm ty2 x;simp only[NJ] at hm1;rw[aub] at hm1;have R2:=R1.put (v:=.d (.int k n)) (dst:=some d2') R1.at_.nx hm1 (by simpa[DJ] using hd2);simp only[NJ] at R1 R2;have hgv:(a.put (some d1') g).eval x=.int k n:=by simpa[aC,ro] using hm1
 have auc:d1'≠d2':=by intro e;subst e;simp at hne
 have hs1:((a.put (some d1') g).put (some d2') ((a.put (some d1') g).eval x)).eval (.tmp d1')=g:=by simp only[Act.eval,Act.put];rw[Array.getD_eq_getD_getElem?,Array.getElem?_setIfInBounds_ne (Ne.symm auc)];rw[Array.getElem?_setIfInBounds_self_of_lt (by rw[R.size];exact hd1)];rfl
 have hs2:((a.put (some d1') g).put (some d2') ((a.put (some d1') g).eval x)).eval (.tmp d2')=.int k n:=by rw[<-hgv];simp only[Act.eval,Act.put];rw[Array.getD_eq_getD_getElem?,Array.getElem?_setIfInBounds_self_of_lt (by simp[R.size];exact hd2)];rfl
 simp only[afj,su] at hf;obtain⟨⟨al5,afp⟩,hfun⟩:=hf;have al5:=lq al5;have afp:=lq afp;cases hg:X.P.funcs[f]? with
 |none=>simp[hg] at hfun
 |some fnc=>
 simp only[hg,su,Bool.not_eq_true'] at hfun;obtain⟨⟨hbody,hname⟩,hres⟩:=hfun;cases hrt:fnc.resultTypes.toList with
 |nil=>simp[hrt] at hres
 |cons rt rts=>
 cases rts with
 |cons _ _=>simp[hrt] at hres
 |nil=>
 simp only[hrt,su,Bool.not_eq_true'] at hres;obtain⟨hres,apc⟩:=hres;have hFd:G.F r=b::(Na++(Qs++Nc++Qu)++Nb):=by rw[hF,hN',apb]
 have aad:=R.at_.ok.nd r;rw[hFd] at aad;have hsub:∀y,y∈Nc->y∈G.F r:=λy hy=>by rw[hFd];simp[hy]
 have abV:Given X base U w f [.own jf 0,.d (.int k n)] [.arr false (lJ X.P e) 0 (iM X.P e) rs] [g,.int k n] [g] [] Nc:=by
  have aud:Nc.Nodup:=by have h1:=(List.nodup_cons.1 aad).2;have h2:=(List.nodup_append.1 (List.nodup_append.1 h1).1).2.1;exact(List.nodup_append.1 (List.nodup_append.1 h2).1).2.1
  have hv:(Gh U w G).le (view w U (· ∈[]++Nc)):=Em (λ_ x=>x) (λy hy=> .inr ⟨r,hsub y (by simpa using hy)⟩);refine⟨by simpa using aud,λy hy=>R.at_.ok.lt y (.inr ⟨r,hsub y (by simpa using hy)⟩),R.at_.ok.up,R.at_.ok.bs, ?_, ?_,yc hv (yc R.at_.first hK.gl),XD hK.gl R.at_.fr.keep hK.tab⟩
  ·have hsl:IB g:=by simp only[ow] at qow;rcases qow with⟨_,rfl,_⟩|⟨_,_,_,_,_,rfl,_⟩<;>exact⟨_,_,_,rfl⟩
   simp only[F8,al5,afp];refine⟨g,[.int k n],[],[],rfl,rfl,⟨rfl, ?_⟩,.int k n,[],[],[],rfl,rfl,⟨rfl,by simp[aC,ro]⟩,rfl,rfl⟩;simp[aC,hsl,kP,get,impμ]
  ·exact⟨g,[],Nc,[],rfl,by simp,⟨rfl,rfl,yT hv (λ_ _=>rfl) (aal hout1 qow)⟩,rfl,rfl⟩
 rw[wpOps_cons];unfold wpOp;simp only[ho1,Region.wanted,if_true];refine .inl (zO (g:=g) (w':=w) (by simp[execOp,hload]) ?_);rw[wpOps_cons];unfold wpOp;simp only[ho2,Region.wanted,if_true];refine .inl (zO (w':=w) (by simp[execOp];rfl) ?_);rw[wpOps_cons];unfold wpOp;simp only[ho3,Region.wanted,if_true];left;unfold Oper.wp;have hrun:(execOp ((a.put (some d1') g).put (some d2') ((a.put (some d1') g).eval x)).eval ⟨ao9,.call ⟨.value (.func f),#[.tmp d1',.tmp d2'],tys⟩,ty3,p3,af3,none⟩).run X.P w=.ok (.enter f #[g,.int k n]) w:=by
  have hnm : fnc.name ≠ "runtime.NumGoroutine" := by
   intro hh;simp[hh] at hname
  have hbn:fnc.body≠none:=by intro hh;simp[hh] at hbody
  have e1:(#[Operand.tmp d1',Operand.tmp d2'].map ((a.put (some d1') g).put (some d2') ((a.put (some d1') g).eval x)).eval)=#[g,.int k n]:=by simp[hs1,hs2]
  have ef:((a.put (some d1') g).put (some d2') ((a.put (some d1') g).eval x)).eval (.func f)=.func (.func f) #[] #[]:=rfl;simp only[execOp,resolve,ef,e1,Deferred.ofValue,Sem.run_bind,Sem.run_pure,Result.andThen_ok,invoke];simp[callFunc,hg,hnm,hbn]
 rw[hrun,Oper.upon_enter];refine Calls.mono (hK.sound f fnc _ _ _ _ hg hbody hKc base U w [g,.int k n] [g] [] Nc abV) ?_;rintro e w' ⟨gs,M1,M2,rfl,D⟩;have hDr:=D.res;rw[hrt] at hDr;simp only[Fj] at hDr;obtain⟨row0,apd,g0,gs0,P1,P2,e1,e2,eM,hv0,e3,e4,e5⟩:=hDr;rw[sU (by simpa using apc)] at hv0;obtain⟨cs0,hv0,ho0,hl0⟩:=hv0;simp only[List.cons.injEq] at e1;obtain⟨rfl,rfl⟩:=e1;subst e4;subst e2;simp only[valOf,hres,Bool.false_eq_true,if_false] at hv0;subst hv0;simp only[dF,ow] at ho0;obtain⟨v0,cs',Q1,Q2,e6,eQ,⟨rfl,hQ1⟩,hQ2⟩:=ho0;simp only[List.cons.injEq] at e6;obtain⟨rfl,_⟩:=e6;have hM2:M2=[]:=by rw[eM,eQ,hQ1,hQ2,e5];rfl
 obtain⟨g1,gs1,C1,C2,e7,e8,hcb,hcn⟩:=D.cells;simp only[List.cons.injEq] at e7;obtain⟨rfl,rfl⟩:=e7;obtain⟨_,hC2⟩:=hcn;obtain⟨_,_,harr⟩:=hcb;have hM1:M1=C1:=by rw[e8,hC2];simp
 subst hM1;have al6:Keep (G.F r) w w':=⟨D.keep.os,D.keep.tape,D.keep.output,D.keep.size,λy hy hn'=>D.keep.block y hy (λh'=>hn' (hsub y (by simpa using h')))⟩
 have al7:∀y,y∈M1->(y∈Nc\/w.heap.size<=y)/\y<w'.heap.size:=λy hy=>by have:=D.mem y (by simp[hy]);simpa using this
 have aue:M1.Nodup:=by have:=D.nd;rw[hM2] at this;simpa using this
 have al8:∀y,y∈G.F r->y<w.heap.size:=λy hy=>(R.at_.ok.lt y (.inr ⟨r,hy⟩)).1
 have hother:∀y,y∈G.F r->y ∉ Nc->w'.heap[y]? =w.heap[y]? :=λy hy hn'=>D.keep.block y (al8 y hy) (by simpa using hn')
 have hnew:(b::(Na++(Qs++M1++Qu)++Nb)).Nodup:=by
  have hperm:(b::(Na++(Qs++M1++Qu)++Nb)).Perm ((b::(Na++(Qs++Qu)++Nb))++M1):=by
   refine List.Perm.trans (List.Perm.cons b ?_) (by rw[WI]);have h1:(Qs++M1++Qu).Perm ((Qs++Qu)++M1):=by rw[BD,BD];exact List.Perm.append_left _ List.perm_append_comm
   have h2:(Na++(Qs++M1++Qu)++Nb).Perm (Na++((Qs++Qu)++M1)++Nb):=List.Perm.append_right _ (List.Perm.append_left _ h1);refine h2.trans ?_;rw[<-BD Na,BD _ M1 Nb,BD _ Nb M1];exact List.Perm.append_left _ List.perm_append_comm
  rw[hperm.nodup_iff];have hold:(b::(Na++(Qs++Qu)++Nb)).Nodup/\∀y,y∈(b::(Na++(Qs++Qu)++Nb))->y ∉ Nc:=by
   have abZ:(b::(Na++(Qs++Nc++Qu)++Nb)).Perm ((b::(Na++(Qs++Qu)++Nb))++Nc):=by
    refine List.Perm.trans (List.Perm.cons b ?_) (by rw[WI]);have h1:(Qs++Nc++Qu).Perm ((Qs++Qu)++Nc):=by rw[BD,BD];exact List.Perm.append_left _ List.perm_append_comm
    have h2:(Na++(Qs++Nc++Qu)++Nb).Perm (Na++((Qs++Qu)++Nc)++Nb):=List.Perm.append_right _ (List.Perm.append_left _ h1);refine h2.trans ?_;rw[<-BD Na,BD _ Nc Nb,BD _ Nb Nc];exact List.Perm.append_left _ List.perm_append_comm
   have:=abZ.nodup_iff.1 aad;have h3:=List.nodup_append.1 this;exact⟨h3.1,λy hy hy'=>h3.2.2 y hy y hy' rfl⟩
  refine List.nodup_append.2 ⟨hold.1,aue,λy hy z hz hyz=> ?_⟩;subst hyz;rcases(al7 y hz).1 with h'|h'
  ·exact hold.2 y hy h'
  ·have:y∈G.F r:=by rw[hFd];simp only[List.mem_cons,List.mem_append] at hy|-;rcases hy with h1|(h1|h1|h1)|h1<;>simp[h1]
   have:=al8 y this;omega
 have adf:∀y,y∈b::(Na++(Qs++Qu)++Nb)->y∈G.F r/\y ∉ Nc:=by
  intro y hy;refine⟨by rw[hFd];simp only[List.mem_cons,List.mem_append] at hy|-;rcases hy with h1|(h1|h1|h1)|h1<;>simp[h1],λhc'=> ?_⟩;have abZ:(b::(Na++(Qs++Nc++Qu)++Nb)).Perm ((b::(Na++(Qs++Qu)++Nb))++Nc):=by
   refine List.Perm.trans (List.Perm.cons b ?_) (by rw[WI]);have h1:(Qs++Nc++Qu).Perm ((Qs++Qu)++Nc):=by rw[BD,BD];exact List.Perm.append_left _ List.perm_append_comm
   have h2:(Na++(Qs++Nc++Qu)++Nb).Perm (Na++((Qs++Qu)++Nc)++Nb):=List.Perm.append_right _ (List.Perm.append_left _ h1);refine h2.trans ?_;rw[<-BD Na,BD _ Nc Nb,BD _ Nb Nc];exact List.Perm.append_left _ List.perm_append_comm
  exact(List.nodup_append.1 (abZ.nodup_iff.1 aad)).2.2 y hy y hc' rfl
 have hsame:∀y,y∈b::(Na++(Qs++Qu)++Nb)->aX w' y=aX w y:=λy hy=>hother y (adf y hy).1 (adf y hy).2
 have hx:=R2.at_.rewrite (c':=.arr false false ver s (rows.set i (splice row off [.sl true (iM X.P e) q.2.2.2.2]))) (μ':=G.μ) (N:=b::(Na++(Qs++M1++Qu)++Nb)) hc al6 hnew
  (λy hy=>by
   have:y∈M1\/y∈b::(Na++(Qs++Qu)++Nb):=by simp only[List.mem_cons,List.mem_append] at hy|-;rcases hy with h1|(h1|(h1|h1)|h1)|h1<;>simp[h1]
   rcases this with h1|h1
   ·exact⟨(al7 y h1).1.imp (hsub y) id,(al7 y h1).2⟩
   ·exact⟨.inl (adf y h1).1,Nat.lt_of_lt_of_le (al8 y (adf y h1).1) D.keep.size⟩)
  (λ_ _=>rfl) ⟨Nat.le_refl _,rfl,λ_=>⟨rfl,rfl⟩⟩
  (λh' hle hml=>by
   show KD (aX w') h' false s _ (G.μ r) _;refine .inr ⟨b,cap0,cs,tt,Na++(Qs++M1++Qu)++Nb, ?_, ?_, ?_,hsize, ?_,rfl⟩
   ·rw[hμ];simp
   ·simpa using hcap
   ·rw[hsame b (by simp)];exact hH
   ·refine putRow (aX w') h' _ _ hle (λy hy=>hsame y (by simp only[List.mem_cons,List.mem_append] at hy|-;rcases hy with h1|h1<;>simp[h1])) ?_ ?_
    ·rw[rO (by simpa[hlen] using apa),hlen]
    ·refine ahK (aX w') h' _ M1 hle (λy hy=>hsame y (by simp only[List.mem_cons,List.mem_append] at hy|-;rcases hy with h1|h1<;>simp[h1])) ?_;exact ac6 (.sl true (iM X.P e) q.2.2.2.2) _ _ hpure (Tz hout2 harr))
 have hfin:=R2.put (v:=.d (.int q.1 q.2.1)) (g:=.int q.1 q.2.1) (dst:=ao9) hx (by simp[aC,ro]) hd3;exact hn w' _ _ hfin hx.view
end
end Go.Vm
namespace Go.Vm
open Go
open Go.IntKind (i64)
section
variable {base:Nat} {U:Nat->Prop} {M0:List Nat} {w0 w:World} {ν:Nat->Value} {M:Mem} {nt:Nat} {S T:St} {G:GS} {a:Act} {X:Ctx} {K:fM} {fn:Nat} {ops:Array Oper}
def XJ:∀{is:List Nat} {S S':St} {L L':List (Nat×Log)},pq X K fn ops is S L=some (S',L')->
  ∃T:List (Nat×Log),L'=T.reverse++L/\Tr X K fn ops T S S'/\T.map (·.1)=is
 |[],S,S',L,L',h=>by simp only[pq,dG,eH] at h;obtain⟨rfl,rfl⟩:=h;exact⟨[],rfl,rfl,rfl⟩
 |i::is,S,S',L,L',h=>by
  simp only[pq] at h;cases h1:sD X K fn ops i S with
  |none=>simp[h1] at h
  |some r=>obtain⟨S1,l1⟩:=r;simp only[h1] at h;obtain⟨T,e,t,m⟩:=XJ h;exact⟨(i,l1)::T,by rw[e];simp,⟨S1,h1,t⟩,by simp[m]⟩
def Nu:∀{l:List Oper} {n k:Nat} {o:Oper},KN n l=true->l[k]? =some o->∀e,e∈o.after->Region.binds .any e=true->e.on<n+k
 |[],_,_,_,_,h=>by simp at h
 |o'::l,n,0,o,hb,h=>by simp only[List.getElem?_cons_zero,dG] at h;subst h;simp only[KN,su] at hb;intro e he hbi;have:=List.all_eq_true.1 hb.1 e (by simpa using he);rw[hbi] at this;simpa using this
 |o'::l,n,k+1,o,hb,h=>by simp only[KN,su] at hb;intro e he hbi;have:=Nu hb.2 (by simpa using h) e he hbi;omega
def aau{k:Nat}{o:Oper}(hb:backOk ops=true)(h:ops[k]? =some o):∀e,e∈o.after->Region.binds .any e=true->e.on<k:=by intro e he hbi;have:=Nu (n:=0) hb (k:=k) (o:=o) (by simpa using h) e he hbi;omega
def any_ok(hK:Ld X K U M0 w0)(hnt:yQ X.P fn=nt)(hb:backOk ops=true){Q:Exit->Act->World->Prop}:∀(fuel:Nat) {listed:Array Bool} {L:List (Nat×Log)} {w:World} {S S':St} {G:GS} {a:Act}
  (_:L.length<=fuel) (_:listed.size=ops.size) (_:Cl ops listed) (_:∀i,i<ops.size->(listed.getD i true=false↔i∈L.map (·.1))) (_:(L.map (·.1)).Nodup)
  (_:Ok ops L) (_:Tr X K fn ops L S S') (_:Rel base U M0 w0 ν M nt w S G a)
  (_:∀w' G' a',Rel base U M0 w0 ν M nt w' S' G' a'->(Gh U w G).le (Gh U w' G')->Q .normal a' w'),wpAny X.P .any ops Q fuel listed a w
 |0,listed,L,w,S,S',G,a,hf,hs,hcl,hl,hnd,hok,htr,R,hn=>by have:L=[]:=List.length_eq_zero_iff.1 (Nat.le_zero.1 hf);subst this;cases htr;refine⟨?_,hn w G a R (View.le_refl _)⟩;rw[List.eq_nil_iff_forall_not_mem];intro i hi;obtain⟨h1,o,h2,_⟩:=mem_ready.1 hi;have hlt:i<ops.size:=(Array.getElem?_eq_some_iff.1 h2).1;simpa using(hl i hlt).1 h1
 |fuel+1,listed,L,w,S,S',G,a,hf,hs,hcl,hl,hnd,hok,htr,R,hn=>by
  refine⟨λhr=> ?_,λi hi=> ?_⟩
  ·have hL:L=[]:=by
    rw[List.eq_nil_iff_forall_not_mem];have hall:∀i,i ∉ L.map (·.1):=by
     intro i;induction i using Nat.strongRecOn with
     |_ i ih=>
      intro hi;have hlt:i<ops.size:=by
       rcases Nat.lt_or_ge i ops.size with h|h
       ·exact h
       ·obtain⟨⟨i',l⟩,hx,rfl⟩:=List.mem_map.1 hi;exfalso;have:∀{L:List (Nat×Log)} {S S':St},Tr X K fn ops L S S'->∀x,x∈L->∃o,ops[x.1]? =some o:=by
         intro L;induction L with
         |nil=>intro _ _ _ x hx;simp at hx
         |cons y L ihL=>
          rintro S S' ⟨S1,h1,h2⟩ x hx;rcases List.mem_cons.1 hx with rfl|hx
          ·exact UO h1
          ·exact ihL h2 x hx
        obtain⟨o,ho⟩:=this htr _ hx;have:=(Array.getElem?_eq_some_iff.1 ho).1;simp at this h;omega
      have hni:i ∉ Region.ready .any ops listed:=by rw[hr];simp
      apply hni;rw[mem_ready];refine⟨(hl i hlt).2 hi,ops[i],by simp[hlt],λe he hbi=> ?_⟩;have hei:=aau hb (k:=i) (by simp[hlt]) e he hbi;have hel:e.on<ops.size:=Nat.lt_trans hei hlt;have:=ih e.on hei;rw[<-hl e.on hel] at this;have hsz:e.on<listed.size:=by rw[hs];exact hel
      simp only[Array.getD,hsz,dite_true] at this|-;simpa using this
    intro x hx;exact hall x.1 (List.mem_map.2 ⟨x,hx,rfl⟩)
   subst hL;cases htr;exact hn w G a R (View.le_refl _)
  ·obtain⟨h1,o,h2,h3⟩:=mem_ready.1 hi;have hlt:i<ops.size:=(Array.getElem?_eq_some_iff.1 h2).1;obtain⟨⟨i',l⟩,hx,rfl⟩:=List.mem_map.1 ((hl i hlt).1 h1);obtain⟨pre,post,rfl⟩:=List.append_of_mem hx;simp only at h1 h2 h3 hlt hi;have hsz:i'<listed.size:=by rw[hs];exact hlt
   have hun:∀x,x∈pre->listed.getD x.1 false=false/\x.1<ops.size:=by
    intro x hxp;have hxo:∃o,ops[x.1]? =some o:=by
     have:∀{L:List (Nat×Log)} {S S':St},Tr X K fn ops L S S'->∀x,x∈L->∃o,ops[x.1]? =some o:=by
      intro L;induction L with
      |nil=>intro _ _ _ x hx;simp at hx
      |cons y L ihL=>
       rintro S S' ⟨S1,h1,h2⟩ x hx;rcases List.mem_cons.1 hx with rfl|hx
       ·exact UO h1
       ·exact ihL h2 x hx
     exact this htr x (by simp[hxp])
    obtain⟨ox,hox⟩:=hxo;have hxl:=(Array.getElem?_eq_some_iff.1 hox).1;have:=(hl x.1 hxl).2 (List.mem_map.2 ⟨x,by simp[hxp],rfl⟩);have hsx:x.1<listed.size:=by rw[hs];exact hxl
    simp only[Array.getD,hsx,dite_true] at this|-;exact⟨this,hxl⟩
   have auf:∀x,x∈pre->aas ops x.1 i' x.2 l:=by
    intro x hxp;have:=(List.pairwise_append.1 hok).2.2 x hxp (i',l) (by simp);rcases this with ho|ho
    ·exfalso;obtain⟨o',e,q1,q2,q3,q4⟩:=UQ ho;simp only at q1;rw[h2] at q1;cases q1;have hel:=h3 e q2 q3;have hx0:=(hun x hxp).1;rcases q4 with q4|⟨_,q4⟩
     ·rw[q4,hel] at hx0;cases hx0
     ·rw[hcl.path e.on x.1 hel q4] at hx0;cases hx0
    ·exact ho
   obtain⟨S'',⟨S1,r1,r2⟩,hE⟩:=Tr.front htr auf;refine aaq hK hnt R r1 λw1 G1 a1 R1 v1=> ?_
   have hnd':((pre++post).map (·.1)).Nodup/\i' ∉(pre++post).map (·.1):=by
    have h':(pre.map (·.1)++i'::post.map (·.1)).Nodup:=by simpa using hnd
    have h'':=(List.perm_middle (a:=i') (l₁:=pre.map (·.1)) (l₂:=post.map (·.1))).nodup_iff.1 h';rw[List.nodup_cons] at h'';exact⟨by simpa using h''.2,by simpa using h''.1⟩
   refine any_ok hK hnt hb fuel (L:=pre++post) ?_ ?_ ?_ ?_ hnd'.1 ?_ r2 R1 ?_
   ·simp at hf|-;omega
   ·simp[hs]
   ·intro k hk o' ho' e he hbd
    by_cases hki:k=i'
    ·subst hki;rw[h2] at ho';cases ho';have:=h3 e he hbd
     by_cases hei:k=e.on
     ·simp[Array.getD,<-hei,hsz]
     ·rw[getD_set_ne false hei];exact this
    ·rw[getD_set_ne false (Ne.symm hki)] at hk;have:=hcl k hk o' ho' e he hbd
     by_cases hei:i'=e.on
     ·simp[Array.getD,<-hei,hsz]
     ·rw[getD_set_ne false hei];exact this
   ·intro k hk
    by_cases hki:k=i'
    ·subst hki;have e1:(listed.setIfInBounds k true).getD k true=true:=by simp[Array.getD,hsz]
     rw[e1];exact⟨λh=>by simp at h,λh=>absurd h hnd'.2⟩
    ·rw[getD_set_ne true (Ne.symm hki),hl k hk];simp[hki]
   ·have h':=List.pairwise_append.1 hok;exact List.pairwise_append.2 ⟨h'.1,(List.pairwise_cons.1 h'.2.1).2,λx hx y hy=>h'.2.2 x hx y (by simp[hy])⟩
   ·intro w' G' a' R' v';exact hn w' G' a' (R'.eqv hE.symm) (v1.trans' v')
def ab1{n p:Nat}(h:p+2<n):List.range n=List.range p++(p::(p+1)::(p+2)::(List.range n).drop (p+3)):=by
 have e:∀k,k<n->(List.range n).drop k=k::(List.range n).drop (k+1):=by intro k hk;rw[List.drop_eq_getElem_cons (by simpa using hk)];simp
 rw[<-e (p+2) h,<-e (p+1) au,<-e p au];have:List.range p=(List.range n).take p:=by rw[List.take_range,Nat.min_eq_left au]
 rw[this,List.take_append_drop]
def aei(hK:Ld X K U M0 w0)(hnt:yQ X.P fn=nt)(hM:∀r c,get r M=some c->BL r=true):ak0 base U M0 w0 ν M nt X K fn:=by
 intro id ops draw w S S' G a Q R h hn;simp only[region] at h;cases hr:sS X K fn id ops draw S with
 |none=>simp[hr] at h
 |some r=>
  obtain⟨S1,L⟩:=r;simp only[hr] at h;have hfin:prune (X.Bf.keep fn id) S1=some S'->∀w1 G1 a1,Rel base U M0 w0 ν M nt w1 S1 G1 a1->(Gh U w G).le (Gh U w1 G1)->Q .normal a1 w1:=by intro hp w1 G1 a1 R1 v1;obtain⟨G2,R2,v2⟩:=afH R1 hM hp;exact hn w1 G2 a1 R2 (v1.trans' v2)
  simp only[sS] at hr;cases hfu:X.Bf.fuse fn id with
  |succ p=>
   rw[hfu] at hr;cases draw with
   |true=>simp at hr
   |false=>
    simp only at hr;simp only[bZ] at h;cases h1:pq X K fn ops (List.range p) S [] with
    |none=>simp[h1] at hr
    |some r1=>
     obtain⟨T1,L1⟩:=r1;simp only[h1] at hr;cases h2:yR X K fn ops p T1 with
     |none=>simp[h2] at hr
     |some T2=>
      simp only[h2] at hr;have hlt:p+2<ops.size:=by
       simp only[yR] at h2;cases hq:ops[p+2]? with
       |some o=>exact(Array.getElem?_eq_some_iff.1 hq).1
       |none=>
        rw[hq] at h2;split at h2
        ·rename_i h3;simp at h3
        ·cases h2
      refine wp_region ?_;rw[ab1 hlt];refine Oj hK hnt R h1 λw1 G1 a1 R1 v1=> ?_
      refine ahJ hK R1 hnt h2 λw2 G2 a2 R2 v2=> ?_
      exact XG hK hnt R2 hr λw3 G3 a3 R3 v3=>hfin h w3 G3 a3 R3 ((v1.trans' v2).trans' v3)
  |zero=>
  rw[hfu] at hr;simp only at hr;cases draw with
  |false=>simp only[bZ] at h;exact wp_region (XG hK hnt R hr (hfin h))
  |true=>
   simp only at h;cases hc:(X.P.follows .mixedOrders &&(backOk ops && KL ops (Region.before ops) L)) with
   |false=>simp[hc] at h
   |true=>
    simp only[hc,bZ] at h;simp only[su] at hc;obtain⟨hm,hb,hd⟩:=hc;obtain⟨T,e,ht,hmp⟩:=XJ hr;simp only[List.append_nil] at e;subst e;have hok:Ok ops T:=by have:=RG hd;rw[List.pairwise_reverse] at this;exact this
    have hlen:T.length=ops.size:=by have:=congrArg List.length hmp;simpa using this
    have hR':Rel base U M0 w0 ν M nt {w with drawn:=w.drawn+1} S G a:=by have ok:=R.at_.ok;have fr:=R.at_.fr;have kp:=fr.keep;exact⟨⟨⟨ok.cell,ok.dj,ok.OM,ok.nd,ok.Ug,ok.lt,ok.up,ok.bs,ok.none_,ok.out_⟩,R.at_.E,R.at_.out,⟨⟨kp.os,kp.tape,kp.output,kp.size,kp.block⟩,fr.fr⟩⟩,R.tm,R.size,R.defers,R.imp⟩
    refine wp_region_any hm (any_ok hK hnt hb ops.size (L:=T) au (by simp) ?_ ?_ ?_ hok ht hR' ?_)
    ·intro k hk;simp[Array.getD] at hk
    ·intro i hi;simp[Array.getD,hi,hmp]
    ·rw[hmp];exact List.nodup_range
    ·intro w' G' a' R' v';exact hfin h w' G' a' R' v'
end
end Go.Vm
namespace Go.Vm
open Go
open Go.IntKind (i64)
section
variable {base:Nat} {U:Nat->Prop} {w:World} {X:Ctx}
def aej{f i:Nat}{fl:Bool}{m:Mem}{G:GS}{v v':V}{g:Value}{N N1 N2 E:List Nat}(hg:uN base U w m G)(ho:G.out=[])(hN:N=N1++N2)(hE:(N++E).Perm G.E)
  (hq:match vI X.Bf f i with
   |1=>∃x,v=.d x/\ow (aX w) (Gh U w G) x g N1
   |_=>N1=[]/\aC G.μ m (Gh U w G) v g) {m':Mem} {l l':Log} (h:(abK X.Bf f i fl v).run m l=some (v',m',l')):
  ∃G',uN base U w m' G'/\KE m G m' G'/\(N2++E).Perm G'.E/\G'.out=[]/\aC G'.μ m' (Gh U w G') v' g:=by
 subst hN;rw[BD] at hE;unfold abK at h;split at hq
 ·rename_i hmo;obtain⟨x,rfl,hx⟩:=hq;rw[hmo] at h;simp only at h;have hdef:∀y,ow (aX w) (Gh U w G) y g N1->(Pure.pure (V.d (roD y)):Acc V).run m l=some (v',m',l')->
    ∃G',uN base U w m' G'/\KE m G m' G'/\(N2++E).Perm G'.E/\G'.out=[]/\aC G'.μ m' (Gh U w G') v' g:=by
   intro y hy h;simp only[run_pure,dG,eH] at h;obtain⟨rfl,rfl,rfl⟩:=h;obtain⟨d1,d2,d3⟩:=hg.Uo hE;refine⟨_,d1,d2,List.Perm.refl _,ho, ?_⟩;simp only[aC];exact afm (d3 hy)
  split at h
  ·rename_i s rows he;cases he;replace h:=ah h;obtain⟨x1,m1,l1,h1,h⟩:=h;simp only[run_pure,dG,eH] at h;obtain⟨rfl,rfl,rfl⟩:=h;obtain⟨G1,g1,s1⟩:=Xr hg (λr hr=>by rw[ho] at hr;simp at hr) hE hx h1;exact⟨G1,g1.ok,g1.le,by rw[g1.E],g1.out.trans ho,s1⟩
  ·rename_i y hne he;cases he;exact hdef _ hx h
  ·exact(ak h).elim
 ·rename_i hmo;obtain⟨rfl,hs⟩:=hq;split at h
  ·rename_i e;exact absurd e hmo
  ·simp only[run_pure,dG,eH] at h;obtain⟨rfl,rfl,rfl⟩:=h;exact⟨G,hg,KE.refl _ _,by simpa using hE,ho,hs⟩
def UR{f:Nat}:∀{vs:List V} {i:Nat} {ts:List TypeId} {gs:List Value} {m:Mem} {G:GS} {N E:List Nat} (_:uN base U w m G) (_:G.out=[]) (_:(N++E).Perm G.E)
  (_:F8 X.Bf f G.μ m (aX w) (Gh U w G) i vs gs N) {tm:iF} {m':Mem} {l l':Log} (_:(O4 X f i ts vs).run m l=some (tm,m',l')),
  ∃G',Came base U w m G m' G' E/\∀t v,get t tm=some v->∃k g,t=i+k/\gs[k]? =some g/\aC G'.μ m' (Gh U w G') v g
 |[],i,ts,gs,m,G,N,E,hg,ho,hE,hq,tm,m',l,l',h=>by simp only[O4,run_pure,dG,eH] at h;obtain⟨rfl,rfl,rfl⟩:=h;obtain⟨d1,d2,_⟩:=hg.Uo hE;exact⟨_,⟨d1,d2,rfl,ho⟩,λt v ht=>by simp[get] at ht⟩
 |v::vs,i,ts,gs,m,G,N,E,hg,ho,hE,hq,tm,m',l,l',h=>by
  simp only[F8] at hq;obtain⟨g,gs',N1,N2,rfl,hN,q1,q2⟩:=hq;simp only[O4] at h;replace h:=ah h;obtain⟨v1,m1,l1,h1,h⟩:=h;replace h:=ah h;obtain⟨r,m2,l2,h2,h⟩:=h;simp only[run_pure,dG,eH] at h;obtain⟨rfl,rfl,rfl⟩:=h;obtain⟨G1,g1,le1,e1,o1,s1⟩:=aej hg ho hN hE q1 h1;have q2':=I9 (A:=X.Bf) (f:=f) le1.mem le1.view (H':=aX w) (λ_ _=>rfl) q2;obtain⟨G2,c2,s2⟩:=UR g1 o1 e1 q2' h2;refine⟨G2,⟨c2.ok,le1.trans c2.le,c2.E,c2.out⟩,λt u ht=> ?_⟩;simp only[get] at ht
  by_cases hti:t=i
  ·subst hti;simp only[Nat.beq_refl,bZ,dG] at ht;subst ht;exact⟨0,g,by simp,rfl,c2.le.aC s1⟩
  ·rw[lT hti] at ht;simp only[dX] at ht;obtain⟨k,g',e,hk,hs⟩:=s2 t u ht;exact⟨k+1,g',au,by simpa using hk,hs⟩
def RH{A:ZU}{f:Nat}{μ:Nat->Value}{m:Mem}{H:Heap}{h:View}:∀{vs:List V} {i:Nat} {gs:List Value} {N:List Nat},F8 A f μ m H h i vs gs N->gs.length=vs.length
 |[],_,_,_,q=>by simp only[F8] at q;simp[q.1]
 |v::vs,i,_,_,q=>by simp only[F8] at q;obtain⟨g,gs',N1,N2,rfl,_,_,q2⟩:=q;simp[RH q2]
def IE{H:Heap}{h:View}:∀{cs:List Cell} {gs:List Value} {N:List Nat},cellsB H h cs gs N->gs.length=cs.length
 |[],_,_,q=>by simp[q.1]
 |c::cs,_,_,⟨g,gs',N1,N2,e,_,_,q⟩=>by subst e;simp[IE q]
def UU{H:Heap}{h:View}{c:Cell}{g:Value}{N:List Nat}(q:Z8 H h c g N):sameKind c c:=by
 cases c with
 |box t vs=>exact rfl
 |arr fz fl ver s rows=>obtain⟨_,hv,_⟩:=q;exact⟨hv,hv,rfl,rfl⟩
 |dead=>exact q
 |xk _ _ _=>exact q
 |jM _ _=>exact q
 |jB _ _ _ _ _=>exact q
def Qv{H:Heap}{h:View}{m:Mem}:∀{cs:List Cell} {k:Nat} {gs:List Value} {N:List Nat},(∀i,get (jf+(k+i)) m=cs[i]?)->cellsB H h cs gs N->kinds m ((List.range' k cs.length).map (jf+ ·)) cs
 |[],k,gs,N,_,_=>by simp[kinds]
 |c::cs,k,_,_,hm,⟨g,gs',N1,N2,e,_,q1,q2⟩=>by rw[OL,List.range'_succ,QY];refine⟨c,c,cs,rfl,by have:=hm 0;simpa using this,UU q1,Qv (λi=> ?_) q2⟩;have:=hm (i+1);rw[show k+1+i=k+(i+1) by omega];simpa using this
def UW(n:Nat):nM n=(List.range' 0 n).map (jf+ ·):=by rw[nM,List.range_eq_range']
def Nv(n:Nat):(nM n).Nodup:=by unfold nM;exact List.Pairwise.map _ (λa b h e=>h (Nat.add_left_cancel e)) List.nodup_range
def RI{n i:Nat}(h:i<n):(nM n)[i]? =some (jf+i):=by simp[nM,h]
def UY(n:Nat):(nM n).length=n:=by simp[nM]
def RJ(gs:List Value):(nM gs.length).map (impμ gs)=gs:=by
 apply List.ext_getElem?;intro i;rw[List.getElem?_map]
 by_cases h:i<gs.length
 ·rw[RI h];simp[impμ,h]
 ·rw[List.getElem?_eq_none (by rw[UY];omega),List.getElem?_eq_none au];rfl
def FU:∀{cs:List Cell} {k r:Nat} {c:Cell},get r (kP k cs)=some c->∃i,r=jf+(k+i)/\cs[i]? =some c
 |[],_,_,_,h=>by simp[kP,get] at h
 |c'::cs,k,r,c,h=>by
  simp only[kP,get] at h
  by_cases e:r=jf+k
  ·subst e;simp only[Nat.beq_refl,bZ,dG] at h;exact⟨0,by simp,by simp[h]⟩
  ·rw[lT e] at h;simp only[dX] at h;obtain⟨i,h1,h2⟩:=FU h;exact⟨i+1,au,by simpa using h2⟩
def afK{f:Nat}{fn:Func}{args:List V}{cells:List Cell}{gargs eu:List Value}{N1 N2:List Nat}(hG:Given X base U w f args cells gargs eu N1 N2){tm:iF}{m':Mem}{l':Log}
  (h:(entry X f fn args cells).run (kP 0 cells) .none=some (tm,m',l')) (hn:args.length<=fn.ntmps):
  ∃G,Rel base U (N1++N2) w (impμ eu) (kP 0 cells) fn.ntmps w ⟨tm,m'⟩ G {tmps:=gargs.toArray++Array.replicate (fn.ntmps - gargs.toArray.size) undef,defers:=[]}:=by
 simp only[entry] at h;replace h:=ah h;obtain⟨_,m1,l1,h1,h⟩:=h;have hlen:=IE hG.cells;have al9:∀b,excl (λ_=>[]) (N1++N2) b↔b∈N1++N2:=by
  intro b;constructor
  ·rintro(hb|⟨r,hb⟩)
   ·exact hb
   ·simp at hb
  ·exact λhb=> .inl hb
 have hg0:uN base U w (kP 0 cells) ⟨impμ eu,λ_=>[],N1++N2,nM cells.length⟩:=by
  refine⟨?_, ?_, ?_, ?_,hG.nd, ?_,hG.up,hG.bs, ?_, ?_⟩
  ·intro r c hr hro;exfalso;apply hro;obtain⟨i,e,hi⟩:=FU hr;have hil:i<cells.length:=(FK.1 hi).1;show r∈nM cells.length;rw[e,nM];exact List.mem_map.2 ⟨0+i,List.mem_range.2 au,rfl⟩
  ·intro r r' _ b hb;simp at hb
  ·intro r b hb;simp at hb
  ·intro r;simp
  ·intro b hb;exact hG.lt b ((al9 b).1 hb)
  ·intro r _;rfl
  ·intro r _;rfl
 have hv:(view w U (· ∈N1++N2)).le (Gh U w ⟨impμ eu,λ_=>[],N1++N2,nM cells.length⟩):=Em (λ_ x=>x) (λb hb=>(al9 b).1 hb);have hk0:kinds (kP 0 cells) (nM cells.length) (cells.drop 0):=by rw[List.drop_zero,UW];exact Qv (λi=>by rw[Nat.zero_add];exact Fh cells i) hG.cells
 obtain⟨G1,c1⟩:=Pn (i:=0) (N:=N2) (E:=N1) hg0 (Nv _) rfl hk0 List.perm_append_comm (by rw[List.drop_zero,<-hlen,RJ];exact Bg hv hG.cells) h1;obtain⟨G2,c2,s2⟩:=UR (N:=N1) (E:=[]) c1.ok c1.out (by rw[c1.E];simp) (I9 c1.le.mem (hv.trans' c1.le.view) (λ_ _=>rfl) hG.args) h;have hal:=RH hG.args;refine⟨G2,⟨c2.ok,c2.E,c2.out,⟨Keep.refl _ _,λb hb=> .inl ((al9 b).1 (c1.le.ex b (c2.le.ex b hb)))⟩⟩, ?_, ?_,rfl,mZ c1.le.mem c2.le.mem⟩
 ·intro t v ht;obtain⟨k,g,e,hk,hs⟩:=s2 t v ht;have hkl:k<gargs.length:=(FK.1 hk).1;have ht':t<(gargs.toArray++Array.replicate (fn.ntmps - gargs.toArray.size) undef).size:=by simp;omega
  refine⟨ht', ?_⟩;have:(gargs.toArray++Array.replicate (fn.ntmps - gargs.toArray.size) undef).getD t undef=g:=by rw[Array.getD_eq_getD_getElem?,Array.getElem?_append_left (by simp;omega)];have:t=k:=au;subst this;simp[hk]
  simp only[this];exact hs
 ·simp;omega
end
end Go.Vm
namespace Go.Vm
open Go
open Go.IntKind (i64)
section
variable {base:Nat} {U:Nat->Prop} {w:World} {X:Ctx} {P:Program}
def YW(tmps:Array Value):ResultVar->Sem Value
 | .tmp t=>pure (tmps.getD t undef)
 | .cell a t=>do loadVar t (<-asAddr (tmps.getD a undef))
def Nw{α:Type}(f:α->Sem Value):∀(l:List α) (gs:List Value),(∀(i:Nat) x,l[i]? =some x->∃g,gs[i]? =some g/\(f x).run P w=.ok g w)->l.length=gs.length->(l.mapM f).run P w=.ok gs w
 |[],gs,_,hl=>by have:gs=[]:=List.length_eq_zero_iff.1 hl.symm;subst this;rfl
 |x::l,gs,h,hl=>by
  cases gs with
  |nil=>simp at hl
  |cons g gs=>obtain⟨g',h1,h2⟩:=h 0 x rfl;simp only[List.getElem?_cons_zero,dG] at h1;subst h1;have ih:=Nw f l gs (λi y hy=>by simpa using h (i+1) y (by simpa using hy)) (by simpa using hl);rw[List.mapM_cons];simp only[Sem.run_bind,h2,Result.andThen_ok,ih];rfl
def RN{fn:Func}{tmps:Array Value}{gs:List Value}(h:∀(i:Nat) x,fn.results.toList[i]? =some x->∃g,gs[i]? =some g/\(YW tmps x).run P w=.ok g w)(hl:fn.results.toList.length=gs.length):
  (results fn tmps).run P w=.ok (Lc gs) w:=by
 have hm:=Nw (P:=P) (w:=w) (YW tmps) fn.results.toList gs h hl;have e:results fn tmps=(do
  let vs<-fn.results.mapM (YW tmps)
  pure (if h:vs.size=1 then vs[0] else .tuple vs)):=by
  unfold results
  first
   |rfl
   |(congr 1;done)
   |(congr 1;congr 1;done)
 rw[e,Array.mapM_eq_mapM_toList];simp only[map_eq_pure_bind,Sem.run_bind,hm,Result.andThen_ok,Sem.run_pure];congr 1;unfold Lc;cases gs with
 |nil=>rfl
 |cons g gs=>cases gs with
  |nil=>simp
  |cons _ _=>simp
def aav{m0:Mem}{G:GS}{T:TypeId}{v:V}{g:Value}(hg:uN base U w m0 G)(ho:G.out=[])(hx:aC G.μ m0 (Gh U w G) v g){row:Row}{m':Mem}{l l':Log}(h:(Uf T v).run m0 l=some (row,m',l')):
  ∃G' N g',Bz base U w m0 G m' G' N/\g=g'/\∃b a N1,g'=.pointer (some ⟨b,0,none⟩)/\aX w b=some (.cells a T (0,0))/\dF (aX w) (Gh U w G') row a.toList N1/\row.length=a.size/\N=b::N1:=by
 unfold Uf at h;split at h
 ·rename_i r off;replace h:=ah h;obtain⟨c,m2,l2,h2,h⟩:=h;rw[jV] at h2;cases h2;cases hc:get r m0 with
  |none=>rw[hc] at h;exact(ak h).elim
  |some c=>
   rw[hc] at h;cases c with
   |arr _ _ _ _ _=>exact(ak h).elim
   |dead=>exact(ak h).elim
   |xk _ _ _=>exact(ak h).elim
   |jM _ _=>exact(ak h).elim
   |jB _ _ _ _ _=>exact(ak h).elim
   |box T' cs=>
    simp only at h;replace h:=ah h;obtain⟨_,m2,l2,h2,h⟩:=h;obtain⟨hck,rfl,rfl⟩:=bG h2;simp only[su] at hck;have e1:=lq hck.1;have e2:=lq hck.2;subst e1 e2;replace h:=ah h;obtain⟨_,m3,l3,h3,h⟩:=h;rw[nS] at h3;cases h3;have hr:r ∉ G.out:=by simp[ho]
    obtain⟨b,a,q1,q2,q3,q4⟩:=hg.cell r _ hc hr;simp only[aC,hc] at hx;obtain⟨_,b',hμ,rfl⟩:=hx;rw[hμ] at q1;cases q1;have WH:b∈G.F r:=by rw[q4];simp
    have hle:=qg (μ:=G.μ) (μ':=G.μ) (c':=.dead) (λ_ _=>rfl) (λc h=>by rw[hc] at h;cases h;trivial);obtain⟨k1,k2⟩:=hg.set r .dead G.μ [] (G.E++[b]) G.out (by
     simpa using List.nodup_append.2 ⟨hg.Ug,by simp,λx hx y hy e=>by simp only[List.mem_singleton] at hy;subst hy;subst e;exact hg.OM r _ WH hx⟩) (by
     simp only[List.nil_append,List.mem_append,List.mem_singleton];rintro x (hx|rfl)
     ·exact .inr hx
     ·exact .inl WH) hle (λ_ _=>rfl) (λ_ _=>Iff.rfl) (λ_=>rfl) (λ_ _=>rfl)
    have t0:Bz base U w _ G _ ⟨G.μ,Dy G.F r [],G.E++[b],G.out⟩ [b]:=⟨k1,k2,rfl,rfl,rfl⟩
    obtain⟨G',N,t1,p1,hl⟩:=GU k1 (k2.bD q3) ho h;exact⟨G',[b]++N,_,t0.trans t1,rfl,b,a,N,rfl,q2,p1,by rw[hl,<-eP q3,Array.length_toList],rfl⟩
 ·exact(ak h).elim
def aek{m:Mem}{G:GS}{tm:iF}{a:Act}{r:ResultVar}{t:TypeId}(hg:uN base U w m G)(ho:G.out=[])(hT:Po G.μ m (Gh U w G) tm a){row:Row}{m':Mem}{l l':Log}(h:(YL P tm r t).run m l=some (row,m',l')):
  ∃G' N g,Bz base U w m G m' G' N/\(YW a.tmps r).run P w=.ok g w/\Us P (aX w) (Gh U w G') t row g N:=by
 cases r with
 |tmp x=>
  simp only[YL] at h;have hx:=Jb (P:=P) hT 0 (.tmp x);simp only[ev] at hx;cases hpt:OT P t with
  |some T=>rw[hpt] at h;simp only[Us,hpt];obtain⟨G',N,g,t1,hg1,q1⟩:=aav hg ho hx h;exact⟨G',N,g,t1,by rw[<-hg1];rfl,q1⟩
  |none=>
  rw[hpt] at h;simp only[sU hpt];have hgo:∀v:V,aC G.μ m (Gh U w G) v (a.eval (.tmp x))->xZ P t=false->(BJ [v]).run m l=some (row,m',l')->
    ∃G' N g,Bz base U w m G m' G' N/\(YW a.tmps (.tmp x)).run P w=.ok g w/\∃cs,valOf P t cs g/\dF (aX w) (Gh U w G') row cs N/\row.length=cs.length:=by
   intro v hv ht h;obtain⟨G',N,t1,q1,hl⟩:=GU hg (vs:=[v]) (gs:=[a.eval (.tmp x)]) (by simp only[bD];exact⟨_,_,rfl,hv,rfl⟩) ho h;exact⟨G',N,a.eval (.tmp x),t1,rfl,[a.eval (.tmp x)],by simp[valOf,ht],q1,by rw[hl];rfl⟩
  cases ht:xZ P t with
  |true=>
   rw[ht] at h;cases hv:IY x tm with
   |agg cs=>rw[hv] at h hx;simp only[aC] at hx;obtain⟨arr,e,hs⟩:=hx;obtain⟨G',N,t1,q1,hl⟩:=GU hg hs ho h;refine⟨G',N,_,t1,rfl,arr.toList, ?_,q1,by rw[hl,eP hs]⟩;simp only[valOf,ht,if_true];exact e
   |_=>rw[hv] at h;exact(ak h).elim
  |false=>
   rw[ht] at h;cases hv:IY x tm with
   |agg cs=>rw[hv] at h;exact(ak h).elim
   |_=>rw[hv] at h hx;exact hgo _ hx ht h
 |cell y T=>
  simp only[YL] at h;have hx:=Jb (P:=P) hT 0 (.tmp y);simp only[ev] at hx;split at h
  ·rename_i r he;rw[he] at hx;replace h:=ah h;obtain⟨c,m2,l2,h2,h⟩:=h;rw[jV] at h2;cases h2;cases hc:get r m with
   |none=>rw[hc] at h;exact(ak h).elim
   |some c=>
    rw[hc] at h;cases c with
    |arr _ _ _ _ _=>exact(ak h).elim
    |dead=>exact(ak h).elim
    |xk _ _ _=>exact(ak h).elim
    |jM _ _=>exact(ak h).elim
    |jB _ _ _ _ _=>exact(ak h).elim
    |box T' cs=>
     simp only at h;replace h:=ah h;obtain⟨_,m2,l2,h2,h⟩:=h;obtain⟨hck,rfl,rfl⟩:=bG h2;simp only[su,Bool.or_eq_true] at hck;obtain⟨⟨⟨hTt,hlen⟩,hok,hagg⟩,ama⟩:=hck;have ama:OT P t=none:=by simpa using ama
     have hTt:=lq hTt;have hlen:=lq hlen;subst hTt;simp only[aC,hc] at hx;obtain⟨_,b,hμ,hg0⟩:=hx;obtain⟨b',arr,e1,e2,e3,e4⟩:=hg.cell r _ hc (by rw[ho];simp);rw[hμ] at e1;cases e1;obtain⟨G',N,t1,q1,hl⟩:=GU hg e3 ho h;have hal:=eP e3;obtain⟨g,hvg⟩:∃g,valOf P T arr.toList g:=by
      unfold valOf;cases ha:xZ P T with
      |true=>exact⟨_,rfl⟩
      |false=>
       have h1:cs.length=1:=by
        rcases hagg with h1|h1
        ·rw[ha] at h1;cases h1
        ·exact lq h1
       cases hr:arr.toList with
       |nil=>rw[hr] at hal;simp[h1] at hal
       |cons g r=>
        cases r with
        |nil=>exact⟨g,rfl⟩
        |cons _ _=>rw[hr] at hal;simp[h1] at hal
     refine⟨G',N,g,t1, ?_,(sU ama).2 ⟨arr.toList,hvg,q1,by rw[hl,hal]⟩⟩;have hrun:=yh (P:=P) (w:=w) (t:=T) (b:=b) (off:=0) (cs:=arr.toList) (g:=g) hok (by rw[hal,hlen]) (by intro j v hj;have hH:w.heap[b]? =some (.cells arr T' (0,0)):=e2;simp only[World.cell?,hH,Nat.zero_add];simpa using hj) hvg;simp only[YW];have hg0:a.tmps.getD y undef=.pointer (some ⟨b,0,none⟩):=hg0;rw[hg0];simpa[Instr.loadAt,Instr.sureAddr,asAddr] using hrun
  ·exact(ak h).elim
def UZ{tm:iF}{a:Act}:∀{rs:List ResultVar} {ts:List TypeId} {m:Mem} {G:GS} (_:uN base U w m G) (_:G.out=[]) (_:Po G.μ m (Gh U w G) tm a) {rows:List Row} {m':Mem} {l l':Log}
  (_:(LY P tm rs ts).run m l=some (rows,m',l')),∃G' N gs,Bz base U w m G m' G' N/\(∀(i:Nat) x,rs[i]? =some x->∃g,gs[i]? =some g/\(YW a.tmps x).run P w=.ok g w)/\rs.length=gs.length/\
   Fj P (aX w) (Gh U w G') ts rows gs N
 |[],[],m,G,hg,ho,hT,rows,m',l,l',h=>by simp only[LY,run_pure,dG,eH] at h;obtain⟨rfl,rfl,rfl⟩:=h;exact⟨G,[],[],Bz.same hg,λi x h=>by simp at h,rfl,rfl,rfl,rfl⟩
 |r::rs,t::ts,m,G,hg,ho,hT,rows,m',l,l',h=>by
  simp only[LY] at h;replace h:=ah h;obtain⟨row,m1,l1,h1,h⟩:=h;replace h:=ah h;obtain⟨rows',m2,l2,h2,h⟩:=h;simp only[run_pure,dG,eH] at h;obtain⟨rfl,rfl,rfl⟩:=h;obtain⟨G1,N1,g,t1,r1,v1⟩:=aek hg ho hT h1;obtain⟨G2,N2,gs,t2,r2,e2,q2⟩:=UZ t1.ok (t1.out.trans ho) (λt v hv=>⟨(hT t v hv).1,t1.le.aC (hT t v hv).2⟩) h2;refine⟨G2,N1++N2,g::gs,t1.trans t2, ?_,by simp[e2],row,rows',g,gs,N1,N2,rfl,rfl,rfl,Xt t2.le.view (λ_ _=>rfl) v1,q2⟩;intro i x hx;cases i with
  |zero=>simp only[List.getElem?_cons_zero,dG] at hx;subst hx;exact⟨g,rfl,r1⟩
  |succ i=>simpa using r2 i x (by simpa using hx)
 |[],_::_,_,_,_,_,_,_,_,_,_,h=>(ak h).elim
 |_::_,[],_,_,_,_,_,_,_,_,_,h=>(ak h).elim
def ael{μ μ':Nat->Value}{r:Nat}{c c' d:Cell}(hc:sameKind c c)(h:oH μ μ' r c c')(k:sameKind c' d):μ' r=μ r/\sameKind c d:=by
 cases c<;>cases c'<;>cases d<;>simp only[sameKind,oH] at hc h k|-
 ·exact⟨h.2,h.1.symm.trans k⟩
 ·obtain⟨a1,a2,a3,a4⟩:=k;obtain⟨b1,b2,b3⟩:=h;obtain⟨c1,_,_,_⟩:=hc;have:=b3 (c1.trans a1.symm);exact⟨this.1,c1,a2,b2.symm.trans a3,this.2.symm.trans a4⟩
 all_goals trivial
def XK{μ μ':Nat->Value}{m0 m1:Mem}(hle:sF μ m0 μ' m1):∀{rs:List Nat} {cs ds:List Cell},kinds m0 rs cs->kinds m1 rs ds->(∀c,c∈cs->sameKind c c)->(∀(i r:Nat) c,rs[i]? =some r->cs[i]? =some c->get r m0=some c)->rs.map μ'=rs.map μ/\adb cs ds
 |[],cs,ds,h,k,_,_=>by simp only[kinds] at h k;subst h;subst k;exact⟨rfl,rfl⟩
 |r::rs,cs,ds,⟨c,c',cs',e1,h1,h2,h3⟩,⟨d,d',ds',e2,k1,k2,k3⟩,hs,hg=>by subst e1;subst e2;have hc:=hg 0 r c' rfl rfl;obtain⟨c2,q1,q2⟩:=hle r c' hc;rw[k1] at q1;cases q1;obtain⟨p1,p2⟩:=ael (hs c' (by simp)) q2 k2;obtain⟨r1,r2⟩:=XK hle h3 k3 (λc hc=>hs c (by simp[hc])) (λi r c hr hc=>hg (i+1) r c (by simpa using hr) (by simpa using hc));exact⟨by simp[p1,r1],d',ds',rfl,p2,r2⟩
def RP{H:Heap}{h:View}:∀{cs:List Cell} {gs:List Value} {N:List Nat},cellsB H h cs gs N->∀c,c∈cs->sameKind c c
 |[],_,_,_,c,hc=>by simp at hc
 |c::cs,_,_,⟨g,gs',N1,N2,e,_,q1,q2⟩,d,hd=>by
  rcases List.mem_cons.1 hd with rfl|hd
  ·exact UU q1
  ·exact RP q2 d hd
def afL{f:Nat}{fn:Func}{args:List V}{cells outs:List Cell}{gargs eu:List Value}{N1 N2:List Nat}{w':World}(hG:Given X base U w f args cells gargs eu N1 N2){S:St}{G:GS}{a:Act}{nt:Nat}
  (R:Rel base U (N1++N2) w (impμ eu) (kP 0 cells) nt w' S G a) {rows:List Row} (h:leave X fn cells.length S=some (rows,outs)):
  ∃gs M1 M2,(results fn a.tmps).run X.P w'=.ok (Lc gs) w'/\Did X.P U w w' (N1++N2) fn.resultTypes.toList cells outs eu rows gs M1 M2:=by
 simp only[leave] at h;split at h
 ·rename_i r m' l' hr;simp only[dG] at h;subst h;replace hr:=ah hr;obtain⟨aD4,m1,l1,h1,hr⟩:=hr;replace hr:=ah hr;obtain⟨cs1,m2,l2,h2,hr⟩:=hr;simp only[run_pure,dG,eH] at hr;obtain⟨⟨rfl,rfl⟩,rfl,rfl⟩:=hr;obtain⟨G1,Nr,gs,t1,r1,e1,q1⟩:=UZ R.at_.ok R.at_.out R.tm h1;have ho1:G1.out=[]:=t1.out.trans R.at_.out;obtain⟨G2,Nc,t2,q2,kd2⟩:=Qm t1.ok (Nv cells.length) (λr hr=>⟨hr,by rw[ho1];simp⟩) (λr hr=>by rw[ho1] at hr;simp at hr) h2;have hE2:G2.E=Nr++Nc:=by rw[t2.E,t1.E,R.at_.E];rfl
  have hlen:=IE hG.cells;have hk0:kinds (kP 0 cells) (nM cells.length) cells:=by rw[UW];exact Qv (λi=>by rw[Nat.zero_add];exact Fh cells i) hG.cells
  obtain⟨b1,b2⟩:=XK (mZ R.imp t1.le.mem) hk0 kd2 (RP hG.cells) (by intro i r c hr hc;have hi:i<cells.length:=(FK.1 hc).1;rw[RI hi] at hr;cases hr;rw[Fh];exact hc);have hv:(Gh U w' G2).le (view w' U (· ∈Nc++Nr)):=Em (λ_ x=>x) (λb hb=> .inl (by rw[hE2];simp only[List.mem_append] at hb|-;exact hb.symm));refine⟨gs,Nc,Nr,RN r1 e1,R.at_.fr.keep, ?_, ?_,b2, ?_, ?_⟩
  ·have:=t2.ok.Ug;rw[hE2] at this;exact(List.perm_append_comm.nodup_iff).1 this
  ·intro b hb;have hbE:b∈G2.E:=by rw[hE2];simp only[List.mem_append] at hb|-;exact hb.symm
   exact⟨R.at_.fr.fr b (t1.le.ex b (t2.le.ex b (.inl hbE))),(t2.ok.lt b (.inl hbE)).1⟩
  ·rw[b1,<-hlen,RJ] at q2;exact Bg hv q2
  ·exact GX (t2.le.view.trans' hv) (λ_ _=>rfl) q1
 ·cases h
def ahL{K:fM}(hK:Sound X K){f:FuncId}{fn:Func}{args:List V}{cells:List Cell}{rows:List Row}{outs:List Cell}(hf:X.P.funcs[f]? =some fn)(h:body X K f args cells=some (rows,outs))
  {gargs eu:List Value} {N1 N2:List Nat} (hG:Given X base U w f args cells gargs eu N1 N2):
  Calls X.P f gargs.toArray w λe w'=>∃gs M1 M2,e=.returned (Lc gs)/\Did X.P U w w' (N1++N2) fn.resultTypes.toList cells outs eu rows gs M1 M2:=by
 simp only[body,hf] at h;cases hb:fn.body with
 |none=>simp[hb] at h
 |some c=>
  simp only[hb] at h;cases hn:(Nat.ble cells.length jf && Nat.ble args.length fn.ntmps) with
  |false=>simp[hn] at h
  |true=>
   simp only[hn,Bool.not_true,dX] at h;simp only[su] at hn;have hn1:=Nat.le_of_ble_eq_true hn.1;have hn2:=Nat.le_of_ble_eq_true hn.2;split at h
   ·rename_i tm m' l' he;obtain⟨G,R⟩:=afK hG he hn2;have hM:∀r c,get r (kP 0 cells)=some c->BL r=true:=by intro r c hr;obtain⟨i,e,hi⟩:=FU hr;have hil:i<cells.length:=(FK.1 hi).1;subst e;simp only[BL,su];exact⟨Nat.ble_eq_true_of_le au,by rw[Nat.blt_eq];omega⟩
    have hnt:yQ X.P f=fn.ntmps:=by simp[yQ,hf]
    have ape:=aei (base:=base) (U:=U) (M0:=N1++N2) (w0:=w) (ν:=impμ eu) ⟨hK,hG.gl,hG.tab⟩ hnt hM;have hfin:∀ex S,leave X fn cells.length S=some (rows,outs)->(ex=Ex.normal\/ex=Ex.ret)->∀w' G' a',Rel base U (N1++N2) w (impμ eu) (kP 0 cells) fn.ntmps w' S G' a'->(Gh U w G).le (Gh U w' G')->
      bodyPost X.P fn (λe w'=>∃gs M1 M2,e=.returned (Lc gs)/\Did X.P U w w' (N1++N2) fn.resultTypes.toList cells outs eu rows gs M1 M2) (al3 ex) a' w':=by
     intro ex S hl hex w' G' a' R' _;obtain⟨gs,M1,M2,hr,hd⟩:=afL hG R' hl;rcases hex with rfl|rfl<;>exact⟨R'.defers,_,hr,gs,M1,M2,rfl,hd⟩
    split at h
    ·rename_i S hd;exact calls_of_wp hf hb (afI ape c R hd (hfin _ _ h (.inl rfl)))
    ·rename_i S hd;exact calls_of_wp hf hb (afI ape c R hd (hfin _ _ h (.inr rfl)))
    ·cases h
   ·cases h
end
def YX(X:Ctx):Prop:=∀(f:FuncId) (p:List V->List Cell->Option (List Row×List Cell)) (fn:Func) (args:List V) (cells:List Cell) (rows:List Row) (outs:List Cell),X.MN f=some p->X.P.funcs[f]? =some fn->fn.body.isSome=true->p args cells=some (rows,outs)->
 ∀(base:Nat) (U:Nat->Prop) (w:World) (gargs eu:List Value) (N1 N2:List Nat),Given X base U w f args cells gargs eu N1 N2->
  Calls X.P f gargs.toArray w λe w'=>∃gs M1 M2,e=.returned (Lc gs)/\Did X.P U w w' (N1++N2) fn.resultTypes.toList cells outs eu rows gs M1 M2
def aaw{X:Ctx}(hp:YX X):∀n,Sound X (KO X n)
 |0=>by intro f fn args cells rows outs hf hb h;simp[KO] at h
 |n+1=>by
  intro f fn args cells rows outs hf hb h base U w gargs eu N1 N2 hG;simp only[KO] at h;cases hx:X.MN f with
  |some p=>rw[hx] at h;exact hp f p fn args cells rows outs hx hf hb h base U w gargs eu N1 N2 hG
  |none=>rw[hx] at h;exact ahL (aaw hp n) hf h hG
def ahM{X:Ctx}(hp:YX X):Sound X (call X):=by intro f fn args cells rows outs hf hb h base U w gargs eu N1 N2 hG;obtain⟨n,hn⟩:=Jk h;exact aaw hp n f fn args cells rows outs hf hb hn base U w gargs eu N1 N2 hG
end Go.Vm
namespace Go.Vm
open Go
open Go.IntKind (i64)
def XL(K K':fM):Prop:=∀f args cells r,K f args cells=some r->K' f args cells=some r
def XL.refl(K:fM):XL K K:=λ_ _ _ _ h=>h
def XL.trans{K1 K2 K3:fM}(h:XL K1 K2)(k:XL K2 K3):XL K1 K3:=λf a c r q=>k f a c r (h f a c r q)
def iw{α:Type}(A:fM->Acc α):Prop:=∀K K',XL K K'->∀m l r,(A K).run m l=some r->(A K').run m l=some r
def iw.const{α:Type}(a:Acc α):iw λ_=>a:=λ_ _ _ _ _ _ h=>h
def iw.bind{α β:Type}{A:fM->Acc α}{B:fM->α->Acc β}(h:iw A)(k:∀x,iw λK=>B K x):iw λK=>A K>>=B K:=by intro K K' hK m l r hr;obtain⟨y,m',l'⟩:=r;obtain⟨x,m1,l1,h1,h2⟩:=ah hr;rw[run_bind,h K K' hK m l _ h1];exact k x K K' hK m1 l1 _ h2
def iw.op{f:Nat}{args:List V}{cells:List Cell}:iw λK=>op' (K f args cells):=by intro K K' hK m l r hr;obtain⟨x,m',l'⟩:=r;obtain⟨h1,rfl,rfl⟩:=dn hr;simp only;rw[hK f args cells x h1];rfl
def FI{α:Type}(Kn:Nat->fM)(K:fM)(A:fM->Acc α):Prop:=∀m l r,(A K).run m l=some r->∃n,(A (Kn n)).run m l=some r
def Chain(Kn:Nat->fM):Prop:=∀n,XL (Kn n) (Kn (n+1))
def Chain.le{Kn:Nat->fM}(h:Chain Kn){n k:Nat}(hk:n<=k):XL (Kn n) (Kn k):=by
 induction hk with
 |refl=>exact XL.refl _
 |step _ ih=>exact ih.trans (h _)
section
variable {Kn:Nat->fM} {K:fM} (hc:Chain Kn)
def FI.const{α:Type}(a:Acc α):FI Kn K λ_=>a:=λ_ _ _ h=>⟨0,h⟩
include hc in
theorem FI.bind{α β:Type}{A:fM->Acc α}{B:fM->α->Acc β}(hu:iw A)(ku:∀x,iw λK=>B K x)(h:FI Kn K A)(k:∀x,FI Kn K λK=>B K x):FI Kn K λK=>A K>>=B K:=by intro m l r hr;obtain⟨y,m',l'⟩:=r;obtain⟨x,m1,l1,h1,h2⟩:=ah hr;obtain⟨n1,q1⟩:=h m l _ h1;obtain⟨n2,q2⟩:=k x m1 l1 _ h2;refine⟨max n1 n2, ?_⟩;rw[run_bind,hu _ _ (hc.le (Nat.le_max_left n1 n2)) m l _ q1];exact ku x _ _ (hc.le (Nat.le_max_right n1 n2)) m1 l1 _ q2
theorem FI.op(hK:∀f args cells r,K f args cells=some r->∃n,Kn n f args cells=some r){f:Nat}{args:List V}{cells:List Cell}:FI Kn K λK=>op' (K f args cells):=by intro m l r hr;obtain⟨x,m',l'⟩:=r;obtain⟨h1,rfl,rfl⟩:=dn hr;obtain⟨n,hn⟩:=hK f args cells x h1;refine⟨n, ?_⟩;simp only;rw[hn];rfl
end
def afM(X:Ctx)(fn dst f:Nat)(args:List V):iw λK=>OX X K fn dst f args:=by unfold OX;refine iw.bind (iw.const _) λg=>iw.bind (iw.const _) λ_=>iw.bind (iw.const _) λargs=>iw.bind (iw.const _) λcells=>iw.bind (iw.const _) fun⟨args,Fg⟩=>iw.bind (iw.const _) λ_=>iw.bind iw.op λout=>iw.const _
def afN{Kn:Nat->fM}{K:fM}(hc:Chain Kn)(hK:∀f args cells r,K f args cells=some r->∃n,Kn n f args cells=some r)(X:Ctx)(fn dst f:Nat)(args:List V):FI Kn K λK=>OX X K fn dst f args:=by
 unfold OX;refine FI.bind hc (iw.const _) ?_ (FI.const _) λg=> ?_
 ·exact λg=>iw.bind (iw.const _) λ_=>iw.bind (iw.const _) λargs=>iw.bind (iw.const _) λcells=>iw.bind (iw.const _) fun⟨args,Fg⟩=>iw.bind (iw.const _) λ_=>iw.bind iw.op λout=>iw.const _
 refine FI.bind hc (iw.const _) ?_ (FI.const _) λ_=> ?_
 ·exact λg=>iw.bind (iw.const _) λargs=>iw.bind (iw.const _) λcells=>iw.bind (iw.const _) fun⟨args,Fg⟩=>iw.bind (iw.const _) λ_=>iw.bind iw.op λout=>iw.const _
 refine FI.bind hc (iw.const _) ?_ (FI.const _) λargs=> ?_
 ·exact λg=>iw.bind (iw.const _) λcells=>iw.bind (iw.const _) fun⟨args,Fg⟩=>iw.bind (iw.const _) λ_=>iw.bind iw.op λout=>iw.const _
 refine FI.bind hc (iw.const _) ?_ (FI.const _) λcells=> ?_
 ·exact λg=>iw.bind (iw.const _) fun⟨args,Fg⟩=>iw.bind (iw.const _) λ_=>iw.bind iw.op λout=>iw.const _
 refine FI.bind hc (iw.const _) ?_ (FI.const _) fun⟨args,Fg⟩=> ?_
 ·exact fun⟨args,Fg⟩=>iw.bind (iw.const _) λ_=>iw.bind iw.op λout=>iw.const _
 refine FI.bind hc (iw.const _) ?_ (FI.const _) λ_=> ?_
 ·exact λ_=>iw.bind iw.op λout=>iw.const _
 exact FI.bind hc iw.op (λout=>iw.const _) (FI.op hK) λout=>FI.const _
def amb(X:Ctx)(fn:Nat)(tm:iF)(o:Oper):iw λK=>Xj X K fn tm o:=by
 obtain⟨dst,op,type,pos,after,guard⟩:=o;cases op<;>try exact iw.const _
 case call c=>
  obtain⟨callee,args,tys⟩:=c;cases callee with
  |value f=>
   simp only[Xj];split
   ·exact afM X fn _ _ _
   ·exact iw.const _
  |invoke r m=>exact iw.const _
  |builtin b=>cases b<;>exact iw.const _
 case makeFunc f a b=>cases f<;>exact iw.const _
 case slice a b c d e=>cases e<;>exact iw.const _
def amc{Kn:Nat->fM}{K:fM}(hc:Chain Kn)(hK:∀f args cells r,K f args cells=some r->∃n,Kn n f args cells=some r)(X:Ctx)(fn:Nat)(tm:iF)(o:Oper):FI Kn K λK=>Xj X K fn tm o:=by
 obtain⟨dst,op,type,pos,after,guard⟩:=o;cases op<;>try exact FI.const _
 case call c=>
  obtain⟨callee,args,tys⟩:=c;cases callee with
  |value f=>
   simp only[Xj];split
   ·exact afN hc hK X fn _ _ _
   ·exact FI.const _
  |invoke r m=>exact FI.const _
  |builtin b=>cases b<;>exact FI.const _
 case makeFunc f a b=>cases f<;>exact FI.const _
 case slice a b c d e=>cases e<;>exact FI.const _
def Up{β:Type}(E:fM->Option β):Prop:=∀K K',XL K K'->∀r,E K=some r->E K'=some r
def Ct{β:Type}(Kn:Nat->fM)(K:fM)(E:fM->Option β):Prop:=∀r,E K=some r->∃n,E (Kn n)=some r
def Up.const{β:Type}(e:Option β):Up λ_=>e:=λ_ _ _ _ h=>h
def Ct.const{β:Type}{Kn:Nat->fM}{K:fM}(e:Option β):Ct Kn K λ_=>e:=λ_ h=>⟨0,h⟩
def Up.bind{α β:Type}{E:fM->Option α}{F:fM->α->Option β}(h:Up E)(k:∀x,Up λK=>F K x):Up λK=>(E K).bind (F K):=by intro K K' hK r hr;simp only[Option.bind_eq_some_iff] at hr|-;obtain⟨x,h1,h2⟩:=hr;exact⟨x,h K K' hK x h1,k x K K' hK r h2⟩
def Ct.bind{α β:Type}{Kn:Nat->fM}{K:fM}(hc:Chain Kn){E:fM->Option α}{F:fM->α->Option β}(hu:Up E)(ku:∀x,Up λK=>F K x)(h:Ct Kn K E)(k:∀x,Ct Kn K λK=>F K x):Ct Kn K λK=>(E K).bind (F K):=by intro r hr;simp only[Option.bind_eq_some_iff] at hr|-;obtain⟨x,h1,h2⟩:=hr;obtain⟨n1,q1⟩:=h x h1;obtain⟨n2,q2⟩:=k x r h2;exact⟨max n1 n2,x,hu _ _ (hc.le (Nat.le_max_left n1 n2)) x q1,ku x _ _ (hc.le (Nat.le_max_right n1 n2)) r q2⟩
def aax(X:Ctx)(fn:Nat)(ops:Array Oper)(i:Nat)(S:St):Up λK=>sD X K fn ops i S:=by
 intro K K' hK r hr;simp only[sD] at hr|-;cases ho:ops[i]? with
 |none=>simp[ho] at hr
 |some o=>
  simp only[ho] at hr|-;cases hw:vK ops S.tm o with
  |none=>simp[hw] at hr
  |some bt=>
   obtain⟨b,tm⟩:=bt;cases b with
   |false=>simpa[hw] using hr
   |true=>
    simp only[hw] at hr|-;cases hv:(Xj X K fn tm o).run S.mem .none with
    |none=>simp[hv] at hr
    |some q=>rw[amb X fn tm o K K' hK S.mem .none q hv];rw[hv] at hr;exact hr
def afO{Kn:Nat->fM}{K:fM}(hc:Chain Kn)(hK:∀f args cells r,K f args cells=some r->∃n,Kn n f args cells=some r)(X:Ctx)(fn:Nat)(ops:Array Oper)(i:Nat)(S:St):Ct Kn K λK=>sD X K fn ops i S:=by
 intro r hr;simp only[sD] at hr|-;cases ho:ops[i]? with
 |none=>simp[ho] at hr
 |some o=>
  simp only[ho] at hr|-;cases hw:vK ops S.tm o with
  |none=>simp[hw] at hr
  |some bt=>
   obtain⟨b,tm⟩:=bt;cases b with
   |false=>exact⟨0,by simpa[hw] using hr⟩
   |true=>
    simp only[hw] at hr|-;cases hv:(Xj X K fn tm o).run S.mem .none with
    |none=>simp[hv] at hr
    |some q=>obtain⟨n,hn⟩:=amc hc hK X fn tm o S.mem .none q hv;exact⟨n,by rw[hn];rw[hv] at hr;exact hr⟩
def Qw(X:Ctx)(fn:Nat)(ops:Array Oper)(i:Nat)(is:List Nat)(S:St)(L:List (Nat×Log))(K:fM):
  pq X K fn ops (i::is) S L=(sD X K fn ops i S).bind λr=>pq X K fn ops is r.1 ((i,r.2)::L):=by
 simp only[pq];cases sD X K fn ops i S with
 |none=>rfl
 |some r=>rfl
def Bh(X:Ctx)(fn:Nat)(ops:Array Oper):∀(is:List Nat) (S:St) (L:List (Nat×Log)),Up λK=>pq X K fn ops is S L
 |[],S,L=>Up.const _
 |i::is,S,L=>by simp only[Qw];exact Up.bind (aax X fn ops i S) λr=>Bh X fn ops is r.1 _
def Md{Kn:Nat->fM}{K:fM}(hc:Chain Kn)(hK:∀f args cells r,K f args cells=some r->∃n,Kn n f args cells=some r)(X:Ctx)(fn:Nat)(ops:Array Oper):∀(is:List Nat) (S:St) (L:List (Nat×Log)),Ct Kn K λK=>pq X K fn ops is S L
 |[],S,L=>Ct.const _
 |i::is,S,L=>by simp only[Qw];exact Ct.bind hc (aax X fn ops i S) (λr=>Bh X fn ops is r.1 _) (afO hc hK X fn ops i S) λr=>Md hc hK X fn ops is r.1 _
def XM(X:Ctx)(tm:iF)(o1 o2 o3:Oper):iw λK=>FN X K tm o1 o2 o3:=by
 unfold FN;split
 ·refine iw.bind (iw.const _) λ_=>iw.bind (iw.const _) λe=> ?_
  split
  ·refine iw.bind (iw.const _) λc=> ?_
   split
   ·exact iw.bind (iw.const _) λ_=>iw.bind (iw.const _) λrow=>iw.bind (iw.const _) λrs=>iw.bind (iw.const _) λ_=>iw.bind iw.op λout=>iw.const _
   ·exact iw.const _
  ·exact iw.const _
 ·exact iw.const _
def aem{Kn:Nat->fM}{K:fM}(hc:Chain Kn)(hK:∀f args cells r,K f args cells=some r->∃n,Kn n f args cells=some r)(X:Ctx)(tm:iF)(o1 o2 o3:Oper):FI Kn K λK=>FN X K tm o1 o2 o3:=by
 unfold FN;split
 ·refine FI.bind hc (iw.const _) ?_ (FI.const _) λ_=>FI.bind hc (iw.const _) ?_ (FI.const _) λe=> ?_
  ·intro _;refine iw.bind (iw.const _) λe=> ?_
   split
   ·refine iw.bind (iw.const _) λc=> ?_
    split
    ·exact iw.bind (iw.const _) λ_=>iw.bind (iw.const _) λrow=>iw.bind (iw.const _) λrs=>iw.bind (iw.const _) λ_=>iw.bind iw.op λout=>iw.const _
    ·exact iw.const _
   ·exact iw.const _
  ·intro e;split
   ·refine iw.bind (iw.const _) λc=> ?_
    split
    ·exact iw.bind (iw.const _) λ_=>iw.bind (iw.const _) λrow=>iw.bind (iw.const _) λrs=>iw.bind (iw.const _) λ_=>iw.bind iw.op λout=>iw.const _
    ·exact iw.const _
   ·exact iw.const _
  ·split
   ·refine FI.bind hc (iw.const _) ?_ (FI.const _) λc=> ?_
    ·intro c;split
     ·exact iw.bind (iw.const _) λ_=>iw.bind (iw.const _) λrow=>iw.bind (iw.const _) λrs=>iw.bind (iw.const _) λ_=>iw.bind iw.op λout=>iw.const _
     ·exact iw.const _
    ·split
     ·refine FI.bind hc (iw.const _) ?_ (FI.const _) λ_=>FI.bind hc (iw.const _) ?_ (FI.const _) λrow=>FI.bind hc (iw.const _) ?_ (FI.const _) λrs=>FI.bind hc (iw.const _) ?_ (FI.const _) λ_=>FI.bind hc iw.op (λout=>iw.const _) (FI.op hK) λout=>FI.const _
      ·exact λ_=>iw.bind (iw.const _) λrow=>iw.bind (iw.const _) λrs=>iw.bind (iw.const _) λ_=>iw.bind iw.op λout=>iw.const _
      ·exact λrow=>iw.bind (iw.const _) λrs=>iw.bind (iw.const _) λ_=>iw.bind iw.op λout=>iw.const _
      ·exact λrs=>iw.bind (iw.const _) λ_=>iw.bind iw.op λout=>iw.const _
      ·exact λ_=>iw.bind iw.op λout=>iw.const _
     ·exact FI.const _
   ·exact FI.const _
 ·exact FI.const _
def Om(X:Ctx)(fn:Nat)(ops:Array Oper)(p:Nat)(S:St)(K:fM):yR X K fn ops p S=
  match ops[p]?,ops[p+1]?,ops[p+2]? with
  |some o1,some o2,some o3=>((FN X K S.tm o1 o2 o3).run S.mem .none).bind λr=>bif Nat.blt r.1.1 (yQ X.P fn) &&(Nat.blt r.1.2.1 (yQ X.P fn) && DJ (yQ X.P fn) o3.dst) then some ⟨NJ o3.dst r.1.2.2.2 (put r.1.2.1 r.1.2.2.1 (put r.1.1 .undef S.tm)),r.2.1⟩ else none
  |_,_,_=>none:=by
 simp only[yR];cases ops[p]? with
 |none=>rfl
 |some o1=>cases ops[p+1]? with
  |none=>rfl
  |some o2=>cases ops[p+2]? with
   |none=>rfl
   |some o3=>
    simp only;cases(FN X K S.tm o1 o2 o3).run S.mem .none with
    |none=>rfl
    |some r=>rfl
def Oo(X:Ctx)(fn:Nat)(ops:Array Oper)(p:Nat)(S:St):Up λK=>yR X K fn ops p S:=by
 simp only[Om];cases ops[p]? with
 |none=>exact Up.const _
 |some o1=>cases ops[p+1]? with
  |none=>exact Up.const _
  |some o2=>cases ops[p+2]? with
   |none=>exact Up.const _
   |some o3=>exact Up.bind (λK K' hK r hr=>XM X S.tm o1 o2 o3 K K' hK S.mem .none r hr) λr=>Up.const _
def ab2{Kn:Nat->fM}{K:fM}(hc:Chain Kn)(hK:∀f args cells r,K f args cells=some r->∃n,Kn n f args cells=some r)(X:Ctx)(fn:Nat)(ops:Array Oper)(p:Nat)(S:St):Ct Kn K λK=>yR X K fn ops p S:=by
 simp only[Om];cases ops[p]? with
 |none=>exact Ct.const _
 |some o1=>cases ops[p+1]? with
  |none=>exact Ct.const _
  |some o2=>cases ops[p+2]? with
   |none=>exact Ct.const _
   |some o3=>exact Ct.bind hc (λK K' hK r hr=>XM X S.tm o1 o2 o3 K K' hK S.mem .none r hr) (λr=>Up.const _) (λr hr=>aem hc hK X S.tm o1 o2 o3 S.mem .none r hr) λr=>Ct.const _
def JR(X:Ctx)(fn id:Nat)(ops:Array Oper)(draw:Bool)(S:St)(K:fM):sS X K fn id ops draw S=
  match X.Bf.fuse fn id with
  |0=>pq X K fn ops (List.range ops.size) S []
  |p+1=>match draw with
   |true=>none
   |false=>(pq X K fn ops (List.range p) S []).bind λr=>(yR X K fn ops p r.1).bind λS2=>pq X K fn ops ((List.range ops.size).drop (p+3)) S2 []:=by
 simp only[sS];cases X.Bf.fuse fn id with
 |zero=>rfl
 |succ p=>
  cases draw with
  |true=>rfl
  |false=>
   simp only;cases pq X K fn ops (List.range p) S [] with
   |none=>rfl
   |some r=>simp only[Option.bind_some];cases yR X K fn ops p r.1<;>rfl
def PG(X:Ctx)(fn id:Nat)(ops:Array Oper)(draw:Bool)(S:St):Up λK=>sS X K fn id ops draw S:=by
 simp only[JR];cases X.Bf.fuse fn id with
 |zero=>exact Bh X fn ops _ S _
 |succ p=>
  cases draw with
  |true=>exact Up.const _
  |false=>exact Up.bind (Bh X fn ops _ S _) λr=>Up.bind (Oo X fn ops p r.1) λS2=>Bh X fn ops _ S2 _
def YZ{Kn:Nat->fM}{K:fM}(hc:Chain Kn)(hK:∀f args cells r,K f args cells=some r->∃n,Kn n f args cells=some r)(X:Ctx)(fn id:Nat)(ops:Array Oper)(draw:Bool)(S:St):Ct Kn K λK=>sS X K fn id ops draw S:=by
 simp only[JR];cases X.Bf.fuse fn id with
 |zero=>exact Md hc hK X fn ops _ S _
 |succ p=>
  cases draw with
  |true=>exact Ct.const _
  |false=>exact Ct.bind hc (Bh X fn ops _ S _) (λr=>Up.bind (Oo X fn ops p r.1) λS2=>Bh X fn ops _ S2 _) (Md hc hK X fn ops _ S _) λr=>Ct.bind hc (Oo X fn ops p r.1) (λS2=>Bh X fn ops _ S2 _) (ab2 hc hK X fn ops p r.1) λS2=>Md hc hK X fn ops _ S2 _
def Qx(X:Ctx)(fn id:Nat)(ops:Array Oper)(draw:Bool)(S:St)(K:fM):
  region X K fn id ops draw S=(sS X K fn id ops draw S).bind λr=>bif(match draw with|false=>true|true=>X.P.follows .mixedOrders &&(backOk ops && KL ops (Region.before ops) r.2)) then prune (X.Bf.keep fn id) r.1 else none:=by
 simp only[region];cases sS X K fn id ops draw S with
 |none=>rfl
 |some r=>rfl
def XO(X:Ctx)(fn id:Nat)(ops:Array Oper)(draw:Bool)(S:St):Up λK=>region X K fn id ops draw S:=by simp only[Qx];exact Up.bind (PG X fn id ops draw S) λr=>Up.const _
def aen{Kn:Nat->fM}{K:fM}(hc:Chain Kn)(hK:∀f args cells r,K f args cells=some r->∃n,Kn n f args cells=some r)(X:Ctx)(fn id:Nat)(ops:Array Oper)(draw:Bool)(S:St):Ct Kn K λK=>region X K fn id ops draw S:=by simp only[Qx];exact Ct.bind hc (PG X fn id ops draw S) (λr=>Up.const _) (YZ hc hK X fn id ops draw S) λr=>Ct.const _
def Qy{b:St->Option (Ex×St)}:∀{n k:Nat} {S:St} {r:Ex×St},iter b n S=some r->n<=k->iter b k S=some r
 |0,_,_,_,h,_=>by simp[iter] at h
 |n+1,0,_,_,_,hk=>by omega
 |n+1,k+1,S,r,h,hk=>by
  simp only[iter] at h|-;cases hb:b S with
  |none=>simp[hb] at h
  |some q=>
   obtain⟨e,S'⟩:=q;rw[hb] at h;cases e with
   |normal=>exact Qy h au
   |exit id=>exact h
   |ret=>exact h
def yj{α:Type}{f:Nat->Option α}{x:α}{n:Nat}(hn:f n=some x)(h:∀m y,f m=some y->y=x):lim f=some x:=by unfold lim;rw[dif_pos ⟨x,n,hn⟩];congr 1;obtain⟨m,hm⟩:=Classical.choose_spec (⟨x,n,hn⟩:∃a n,f n=some a);exact h m _ hm
def PI{b:St->Option (Ex×St)}{S:St}{r:Ex×St}{n:Nat}(h:iter b n S=some r):Ig b S=some r:=by
 refine yj h λm y hy=> ?_
 have h1:=Qy h (Nat.le_max_left n m);rw[Qy hy (Nat.le_max_right n m)] at h1;exact Option.some.inj h1
def Oq{b:St->Option (Ex×St)}{S:St}{r:Ex×St}(h:Ig b S=some r):∃n,iter b n S=some r:=Jk h
def iter_eq{b:St->Option (Ex×St)}{n:Nat}{S:St}:iter b (n+1) S=(b S).bind λq=>match q with|(.normal,S')=>iter b n S'|(e,S')=>some (e,S'):=by
 simp only[iter];cases b S with
 |none=>rfl
 |some q=>obtain⟨e,S'⟩:=q;cases e<;>rfl
def Y0{B:fM->St->Option (Ex×St)}(h:∀S,Up λK=>B K S):∀(n:Nat) (S:St),Up λK=>iter (B K) n S
 |0,S=>Up.const _
 |n+1,S=>by
  simp only[iter_eq];refine Up.bind (h S) λq=> ?_
  obtain⟨e,S'⟩:=q;cases e with
  |normal=>exact Y0 h n S'
  |exit id=>exact Up.const _
  |ret=>exact Up.const _
def adg{Kn:Nat->fM}{K:fM}(hc:Chain Kn){B:fM->St->Option (Ex×St)}(hu:∀S,Up λK=>B K S)(h:∀S,Ct Kn K λK=>B K S):∀(n:Nat) (S:St),Ct Kn K λK=>iter (B K) n S
 |0,S=>Ct.const _
 |n+1,S=>by
  simp only[iter_eq];refine Ct.bind hc (hu S) (λq=> ?_) (h S) λq=> ?_
  all_goals
   obtain⟨e,S'⟩:=q;cases e
  ·exact Y0 hu n S'
  ·exact Up.const _
  ·exact Up.const _
  ·exact adg hc hu h n S'
  ·exact Ct.const _
  ·exact Ct.const _
def afP{B:fM->St->Option (Ex×St)}(h:∀S,Up λK=>B K S)(S:St):Up λK=>Ig (B K) S:=by intro K K' hK r hr;obtain⟨n,hn⟩:=Oq hr;exact PI (Y0 h n S K K' hK r hn)
def afQ{Kn:Nat->fM}{K:fM}(hc:Chain Kn){B:fM->St->Option (Ex×St)}(hu:∀S,Up λK=>B K S)(h:∀S,Ct Kn K λK=>B K S)(S:St):Ct Kn K λK=>Ig (B K) S:=by intro r hr;obtain⟨n,hn⟩:=Oq hr;obtain⟨k,hk⟩:=adg hc hu h n S r hn;exact⟨k,PI hk⟩
def Y1(X:Ctx)(fn:Nat)(c:Code):∀S,Up λK=>den X K fn c S:=by
 induction c with
 |region id ops draw=>
  intro S K K' hK r hr;simp only[den] at hr|-;cases h:region X K fn id ops draw S with
  |none=>simp[h] at hr
  |some S'=>have he0:=XO X fn id ops draw S K K' hK S' h;dsimp only at he0;rw[he0];rw[h] at hr;exact hr
 |seq a b iha ihb=>
  intro S K K' hK r hr;simp only[den] at hr|-;cases h:den X K fn a S with
  |none=>simp[h] at hr
  |some q=>
   have he0:=iha S K K' hK q h;dsimp only at he0;rw[he0];rw[h] at hr;obtain⟨e,S'⟩:=q;cases e with
   |normal=>exact ihb S' K K' hK r hr
   |exit id=>exact hr
   |ret=>exact hr
 |cond c a b iha ihb=>
  intro S K K' hK r hr;simp only[den] at hr|-;cases h:MZ X.P S.tm c with
  |none=>simp[h] at hr
  |some q=>
   rw[h] at hr;cases q with
   |true=>exact iha S K K' hK r hr
   |false=>exact ihb S K K' hK r hr
 |block id c ih=>
  intro S K K' hK r hr;simp only[den] at hr|-;cases h:den X K fn c S with
  |none=>simp[h] at hr
  |some q=>have he0:=ih S K K' hK q h;dsimp only at he0;rw[he0];rw[h] at hr;exact hr
 |loop c ih=>intro S;exact afP ih S
 |_=>intro S;exact Up.const _
def amd{Kn:Nat->fM}{K:fM}(hc:Chain Kn)(hK:∀f args cells r,K f args cells=some r->∃n,Kn n f args cells=some r)(X:Ctx)(fn:Nat)(c:Code):∀S,Ct Kn K λK=>den X K fn c S:=by
 induction c with
 |region id ops draw=>
  intro S r hr;simp only[den] at hr|-;cases h:region X K fn id ops draw S with
  |none=>simp[h] at hr
  |some S'=>obtain⟨n,hn⟩:=aen hc hK X fn id ops draw S S' h;dsimp only at hn;exact⟨n,by rw[hn];rw[h] at hr;exact hr⟩
 |seq a b iha ihb=>
  intro S r hr;simp only[den] at hr|-;cases h:den X K fn a S with
  |none=>simp[h] at hr
  |some q=>
   obtain⟨n,hn⟩:=iha S q h;dsimp only at hn;rw[h] at hr;obtain⟨e,S'⟩:=q;cases e with
   |normal=>obtain⟨k,hk⟩:=ihb S' r hr;dsimp only at hk;refine⟨max n k, ?_⟩;have he0:=Y1 X fn a S _ _ (hc.le (Nat.le_max_left n k)) _ hn;dsimp only at he0;rw[he0];exact Y1 X fn b S' _ _ (hc.le (Nat.le_max_right n k)) _ hk
   |exit id=>exact⟨n,by rw[hn];exact hr⟩
   |ret=>exact⟨n,by rw[hn];exact hr⟩
 |cond c a b iha ihb=>
  intro S r hr;simp only[den] at hr|-;cases h:MZ X.P S.tm c with
  |none=>simp[h] at hr
  |some q=>
   rw[h] at hr;cases q with
   |true=>exact iha S r hr
   |false=>exact ihb S r hr
 |block id c ih=>
  intro S r hr;simp only[den] at hr|-;cases h:den X K fn c S with
  |none=>simp[h] at hr
  |some q=>obtain⟨n,hn⟩:=ih S q h;dsimp only at hn;exact⟨n,by rw[hn];rw[h] at hr;exact hr⟩
 |loop c ih=>intro S;exact afQ hc (Y1 X fn c) ih S
 |_=>intro S;exact Ct.const _
def adh(X:Ctx)(f:Nat)(args:List V)(cells:List Cell):Up λK=>body X K f args cells:=by
 intro K K' hK r hr;simp only[body] at hr|-;cases hg:X.P.funcs[f]? with
 |none=>simp[hg] at hr
 |some g=>
  simp only[hg] at hr|-;cases hcd:g.body with
  |none=>simp[hcd] at hr
  |some c=>
   simp only[hcd] at hr|-;revert hr;generalize (!(Nat.ble cells.length jf && Nat.ble args.length g.ntmps))=q;cases q with
   |true=>exact id
   |false=>
    simp only[dX];intro hr;split at hr
    ·rename_i tm m l he;cases h:den X K f c ⟨tm,m⟩ with
     |none=>simp[h] at hr
     |some q=>have he0:=Y1 X f c ⟨tm,m⟩ K K' hK q h;dsimp only at he0;rw[he0];rw[h] at hr;exact hr
    ·cases hr
def ahN{Kn:Nat->fM}{K:fM}(hc:Chain Kn)(hK:∀f args cells r,K f args cells=some r->∃n,Kn n f args cells=some r)(X:Ctx)(f:Nat)(args:List V)(cells:List Cell):Ct Kn K λK=>body X K f args cells:=by
 intro r hr;simp only[body] at hr|-;cases hg:X.P.funcs[f]? with
 |none=>simp[hg] at hr
 |some g=>
  simp only[hg] at hr|-;cases hcd:g.body with
  |none=>simp[hcd] at hr
  |some c=>
   simp only[hcd] at hr|-;revert hr;generalize (!(Nat.ble cells.length jf && Nat.ble args.length g.ntmps))=q;cases q with
   |true=>exact λh=>⟨0,h⟩
   |false=>
    simp only[dX];intro hr;split at hr
    ·rename_i tm m l he;cases h:den X K f c ⟨tm,m⟩ with
     |none=>simp[h] at hr
     |some q=>obtain⟨n,hn⟩:=amd hc hK X f c ⟨tm,m⟩ q h;dsimp only at hn;exact⟨n,by rw[hn];rw[h] at hr;exact hr⟩
    ·cases hr
def Ik(X:Ctx):Chain (KO X)
 |0=>λf args cells r h=>by simp[KO] at h
 |n+1=>λf args cells r h=>by
  simp only[KO] at h|-;cases hp:X.MN f with
  |some p=>simpa[hp] using h
  |none=>simp only[hp] at h|-;exact adh X f args cells _ _ (Ik X n) r h
def XP{X:Ctx}{n:Nat}{f:Nat}{args:List V}{cells:List Cell}{r:List Row×List Cell}(h:KO X n f args cells=some r):call X f args cells=some r:=by
 refine yj h λm y hy=> ?_
 have h1:=(Ik X).le (Nat.le_max_left n m) f args cells r h;rw[(Ik X).le (Nat.le_max_right n m) f args cells y hy] at h1;exact Option.some.inj h1
def ahO{X:Ctx}{K:fM}(hK:XL K (call X)){f:Nat}{args:List V}{cells:List Cell}{r:List Row×List Cell}(hp:X.MN f=none)(h:body X K f args cells=some r):call X f args cells=some r:=by have h1:=adh X f args cells K (call X) hK r h;obtain⟨n,hn⟩:=ahN (Ik X) (λf a c r hr=>Jk hr) X f args cells r h1;dsimp only at hn;refine XP (n:=n+1) ?_;simp only[KO,hp];exact hn
def Y2{X:Ctx}{f:Nat}{p:List V->List Cell->Option (List Row×List Cell)}{args:List V}{cells:List Cell}{r:List Row×List Cell}(hp:X.MN f=some p)(h:p args cells=some r):call X f args cells=some r:=
 XP (n:=1) (by simp only[KO,hp];exact h)
end Go.Vm
namespace Go.Vm
open Go
open Go.IntKind (i64)
abbrev Loops:=Nat->St->Option (Ex×St)
def lid:Code->Nat
 | .region id _ _=>id
 | .seq a b=>match lid a with
  |0=>lid b
  |n=>n
 | .block _ c=>lid c
 | .loop c=>lid c
 | .cond _ a b=>match lid a with
  |0=>lid b
  |n=>n
 |_=>0
def loops:Code->List Code
 | .seq a b=>loops a++loops b
 | .cond _ a b=>loops a++loops b
 | .block _ c=>loops c
 | .loop c=>[c]
 |_=>[]
def zL(X:Ctx)(K:fM)(L:Loops)(fn:Nat):Code->St->Option (Ex×St)
 | .skip,S=>some (.normal,S)
 | .region id ops draw,S=>match region X K fn id ops draw S with
  |some S'=>some (.normal,S')
  |none=>none
 | .seq a b,S=>match zL X K L fn a S with
  |some (.normal,S')=>zL X K L fn b S'
  |r=>r
 | .cond c a b,S=>match MZ X.P S.tm c with
  |some true=>zL X K L fn a S
  |some false=>zL X K L fn b S
  |none=>none
 | .block id c,S=>match zL X K L fn c S with
  |some (.exit j,S')=>bif Nat.beq j id then some (.normal,S') else some (.exit j,S')
  |r=>r
 | .loop c,S=>L (lid c) S
 | .exit id,S=>some (.exit id,S)
 | .ret,S=>some (.ret,S)
 |_,_=>none
def codeOf(P:Program)(f:Nat):Code:=match P.funcs[f]? with
 |some g=>match g.body with
  |some c=>c
  |none=> .skip
 |none=> .skip
def RQ(X:Ctx)(K:fM)(L:Loops)(f:Nat)(args:List V)(cells:List Cell):Option (List Row×List Cell):=
 match X.P.funcs[f]? with
 |some g=>match g.body with
  |some c=>bif !(Nat.ble cells.length jf && Nat.ble args.length g.ntmps) then none else match(entry X f g args cells).run (kP 0 cells) .none with
   |some (tm,m,_)=>(match zL X K L f c ⟨tm,m⟩ with
    |some (.normal,S)=>leave X g cells.length S
    |some (.ret,S)=>leave X g cells.length S
    |_=>none)
   |none=>none
  |none=>none
 |none=>none
def ZT(X:Ctx)(K:fM)(fn:Nat)(L:Loops)(cs:List Code):Prop:=∀c,c∈cs->∀S r,L (lid c) S=some r->Ig (den X K fn c) S=some r
def ZT.nil{X:Ctx}{K:fM}{fn:Nat}{L:Loops}:ZT X K fn L []:=λ_ h=>by simp at h
def ZT.cons{X:Ctx}{K:fM}{fn:Nat}{L:Loops}{c:Code}{cs:List Code}(h:∀S r,L (lid c) S=some r->Ig (den X K fn c) S=some r)(k:ZT X K fn L cs):ZT X K fn L (c::cs):=by
 intro d hd;rcases List.mem_cons.1 hd with rfl|hd
 ·exact h
 ·exact k d hd
def afR{X:Ctx}{K:fM}{L:Loops}{fn:Nat}:∀{c:Code} {S:St} {r:Ex×St},ZT X K fn L (loops c)->zL X K L fn c S=some r->den X K fn c S=some r:=by
 intro c;induction c with
 |seq a b iha ihb=>
  intro S r hL h;have hLa:ZT X K fn L (loops a):=λd hd=>hL d (by simp[loops,hd])
  have hLb:ZT X K fn L (loops b):=λd hd=>hL d (by simp[loops,hd])
  simp only[zL] at h;simp only[den];cases ha:zL X K L fn a S with
  |none=>simp[ha] at h
  |some q=>
   rw[iha hLa ha];rw[ha] at h;obtain⟨e,S'⟩:=q;cases e with
   |normal=>exact ihb hLb h
   |exit id=>exact h
   |ret=>exact h
 |cond c a b iha ihb=>
  intro S r hL h;have hLa:ZT X K fn L (loops a):=λd hd=>hL d (by simp[loops,hd])
  have hLb:ZT X K fn L (loops b):=λd hd=>hL d (by simp[loops,hd])
  simp only[zL] at h;simp only[den];cases hc:MZ X.P S.tm c with
  |none=>simp[hc] at h
  |some q=>
   rw[hc] at h;cases q with
   |true=>exact iha hLa h
   |false=>exact ihb hLb h
 |block id c ih=>
  intro S r hL h;simp only[zL] at h;simp only[den];cases ha:zL X K L fn c S with
  |none=>simp[ha] at h
  |some q=>rw[ih hL ha];rw[ha] at h;exact h
 |loop c ih=>intro S r hL h;exact hL c (by simp[loops]) S r h
 |region id ops draw=>intro S r hL h;exact h
 |skip=>intro S r hL h;exact h
 |exit id=>intro S r hL h;exact h
 |ret=>intro S r hL h;exact h
 |_=>intro S r hL h;simp[zL] at h
def adi(X:Ctx)(L:Loops)(fn:Nat)(c:Code):∀S,Up λK=>zL X K L fn c S:=by
 induction c with
 |region id ops draw=>
  intro S K K' hK r hr;simp only[zL] at hr|-;cases h:region X K fn id ops draw S with
  |none=>simp[h] at hr
  |some S'=>have he0:=XO X fn id ops draw S K K' hK S' h;dsimp only at he0;rw[he0];rw[h] at hr;exact hr
 |seq a b iha ihb=>
  intro S K K' hK r hr;simp only[zL] at hr|-;cases h:zL X K L fn a S with
  |none=>simp[h] at hr
  |some q=>
   have he0:=iha S K K' hK q h;dsimp only at he0;rw[he0];rw[h] at hr;obtain⟨e,S'⟩:=q;cases e with
   |normal=>exact ihb S' K K' hK r hr
   |exit id=>exact hr
   |ret=>exact hr
 |cond c a b iha ihb=>
  intro S K K' hK r hr;simp only[zL] at hr|-;cases h:MZ X.P S.tm c with
  |none=>simp[h] at hr
  |some q=>
   rw[h] at hr;cases q with
   |true=>exact iha S K K' hK r hr
   |false=>exact ihb S K K' hK r hr
 |block id c ih=>
  intro S K K' hK r hr;simp only[zL] at hr|-;cases h:zL X K L fn c S with
  |none=>simp[h] at hr
  |some q=>have he0:=ih S K K' hK q h;dsimp only at he0;rw[he0];rw[h] at hr;exact hr
 |_=>intro S;exact Up.const _
def afS(X:Ctx)(L:Loops)(f:Nat)(args:List V)(cells:List Cell):Up λK=>RQ X K L f args cells:=by
 intro K K' hK r hr;simp only[RQ] at hr|-;cases hg:X.P.funcs[f]? with
 |none=>simp[hg] at hr
 |some g=>
  simp only[hg] at hr|-;cases hcd:g.body with
  |none=>simp[hcd] at hr
  |some c=>
   simp only[hcd] at hr|-;revert hr;generalize (!(Nat.ble cells.length jf && Nat.ble args.length g.ntmps))=q;cases q with
   |true=>exact id
   |false=>
    simp only[dX];intro hr;split at hr
    ·rename_i tm m l he;cases h:zL X K L f c ⟨tm,m⟩ with
     |none=>simp[h] at hr
     |some q=>have he0:=adi X L f c ⟨tm,m⟩ K K' hK q h;dsimp only at he0;rw[he0];rw[h] at hr;exact hr
    ·cases hr
def ahP{X:Ctx}{K:fM}{L:Loops}{f:Nat}{args:List V}{cells:List Cell}{r:List Row×List Cell}(hL:ZT X K f L (loops (codeOf X.P f)))(h:RQ X K L f args cells=some r):body X K f args cells=some r:=by
 simp only[RQ] at h;simp only[body];cases hg:X.P.funcs[f]? with
 |none=>simp[hg] at h
 |some g=>
  simp only[hg] at h|-;cases hcd:g.body with
  |none=>simp[hcd] at h
  |some c=>
   simp only[hcd] at h|-;have hcode:codeOf X.P f=c:=by simp[codeOf,hg,hcd]
   rw[hcode] at hL;revert h;generalize (!(Nat.ble cells.length jf && Nat.ble args.length g.ntmps))=q;cases q with
   |true=>exact id
   |false=>
    simp only[dX];intro h;split at h
    ·rename_i tm m l he;simp only[he];cases hd:zL X K L f c ⟨tm,m⟩ with
     |none=>simp[hd] at h
     |some q=>rw[afR hL hd];rw[hd] at h;exact h
    ·cases h
def afT{X:Ctx}{K:fM}{L:Loops}{f:Nat}{args:List V}{cells:List Cell}{r:List Row×List Cell}(hp:X.MN f=none)(hK:XL K (call X))(hL:ZT X (call X) f L (loops (codeOf X.P f)))
  (h:RQ X K L f args cells=some r):call X f args cells=some r:=by
 exact ahO (XL.refl _) hp (ahP hL (afS X L f args cells K (call X) hK r h))
def ahQ{X:Ctx}{K:fM}{L:Loops}{fn:Nat}{c:Code}{S:St}{r:Ex×St}(hK:XL K (call X))(hL:ZT X (call X) fn L (loops c))(h:zL X K L fn c S=some r):den X (call X) fn c S=some r:=
 afR hL (adi X L fn c S K (call X) hK r h)
end Go.Vm
namespace Go.Vm
open Go
open Go.IntKind (i64)
structure Res(α:Type) where
 β:Type
 o:Option β
 enc:β->α
def Res.val{α:Type}(r:Res α):Option α:=r.o.map r.enc
abbrev Dz:=Nat->List V->List Cell->Res (List Row×List Cell)
inductive Alt(α:Type):Type 1 where
 |leaf (β:Type) (enc:β->α)
 |sum (a b:Alt α)
def Alt.T{α:Type}:Alt α->Type
 | .leaf β _=>β
 | .sum a b=>a.T⊕b.T
def Alt.enc{α:Type}:(a:Alt α)->a.T->α
 | .leaf _ enc,x=>enc x
 | .sum a _,.inl x=>a.enc x
 | .sum _ b,.inr x=>b.enc x
structure Ot(α:Type) where
 alt:Alt α
 o:Option alt.T
def Ot.val{α:Type}(r:Ot α):Option α:=r.o.map r.alt.enc
def Ot.none{α:Type}:Ot α:=⟨.leaf Empty Empty.elim,.none⟩
abbrev Il:=Nat->St->Ot (Ex×St)
def Dz.to(K:Dz):fM:=λf a c=>(K f a c).val
def Il.to(L:Il):Loops:=λn S=>(L n S).val
def Res.none{α:Type}:Res α:=⟨Empty,.none,Empty.elim⟩
section
variable {R:Type}
def qy{α β γ:Type}(r:α⊕β)(f:α->Option γ)(g:β->Option γ):Option γ:=match r with
 | .inl x=>f x
 | .inr y=>g y
def Alt.go{α:Type}:(a:Alt α)->a.T->(α->Option R)->Option R
 | .leaf _ enc=>λx k=>k (enc x)
 | .sum a b=>λx k=>qy x (λx=>a.go x k) (λy=>b.go y k)
def Alt.go_eq{α:Type}(k:α->Option R):∀(a:Alt α) (x:a.T),a.go x k=k (a.enc x)
 | .leaf _ enc,x=>rfl
 | .sum a _,.inl x=>Alt.go_eq k a x
 | .sum _ b,.inr x=>Alt.go_eq k b x
def Ot.U0{α:Type}{r:Ot α}{x:α}(h:r.val=some x):∃y,r.o=some y/\r.alt.enc y=x:=by simpa[Ot.val,Option.map_eq_some_iff] using h
def Res.U0{α:Type}{r:Res α}{x:α}(h:r.val=some x):∃y,r.o=some y/\r.enc y=x:=by simpa[Res.val,Option.map_eq_some_iff] using h
def Acc.Y3{α:Type}:Acc α->Mem->Log->(α->Mem->Log->Option R)->Option R
 | .ret a,m,l,k=>k a m l
 | .fail,_,_,_=>none
 | .get i c,m,l,k=>(c (Vm.get i m)).Y3 m (l.rd i) k
 | .set i x c,m,l,k=>c.Y3 (put i x m) (l.wr i) k
 | .opt o c,m,l,k=>match o with|some b=>(c b).Y3 m l k|none=>none
 | .guard b c,m,l,k=>match b with|true=>c.Y3 m l k|false=>none
def ab3(X:Ctx)(K:Dz)(fn dst f:Nat)(args:List V):Acc V:=do
 let g<-op' X.P.funcs[f]?
 ck (g.body.isSome && !(g.name == "runtime.NumGoroutine"))
 let imp:=F7 X.Bf f 0 [] args
 let args<-I4 X.Bf f 0 args
 let cells<-KI X.Bf imp imp
 let(args,Fg)<-I7 X.Bf imp f 0 args
 ck (Fg.all λr=> !(mem? r imp))
 let b<-op' (K f args cells).o
 let out:=(K f args cells).enc b
 ck (Nat.beq out.1.length g.resultTypes.size)
 let need:= !(Fg.isEmpty) &&(LX X.P (X.Bf.OU fn dst) 0 g.resultTypes.toList && imp.isEmpty)
 ck (bif need then out.1.all bY else true)
 freeze (bif need then[] else Fg)
 QZ X dst out.2 0 imp
 let vs<-NR X (X.Bf.OU fn dst) dst out.1 0 g.resultTypes.toList
 match vs with
 |[v]=>pure v
 |vs=>pure (.Gz vs)
def ame(X:Ctx)(K:Dz)(fn:Nat)(tm:iF)(o:Oper):Acc V:=
 match o.op with
 | .call {callee:=.value f,args,argTypes}=>match ev X.P tm 0 f with
  | .clo g first caps=>ab3 X K fn (o.dst.getD 0) g (first++mX X.P tm args.toList argTypes.toList++caps)
  |_=> .fail
 |_=>Xj X (λ_ _ _=>none) fn tm o
def afU(x:D)(k:D->Option R):Option R:=match x with
 | .int j n=>k (.int j n)
 | .bool b=>k (.bool b)
 | .str s=>k (.str s)
 | .GL=>k .GL
 | .sl o s rows=>match o with
  |true=>k (.sl true s rows)
  |false=>k (.sl false s rows)
mutual
def yt(v:V)(k:V->Option R):Option R:=match v with
 | .d x=>afU x λx=>k (.d x)
 | .nil s=>k (.nil s)
 | .own r v=>k (.own r v)
 | .ptr r o=>k (.ptr r o)
 | .lI r v i o=>k (.lI r v i o)
 | .lS row o=>k (.lS row o)
 | .sG v=>yt v λv=>k (.sG v)
 | .clo f a b=>Gj a λa=>Gj b λb=>k (.clo f a b)
 | .agg cs=>Gj cs λcs=>k (.agg cs)
 | .Gz cs=>Gj cs λcs=>k (.Gz cs)
 | .undef=>k .undef
def Gj(vs:List V)(k:List V->Option R):Option R:=match vs with
 |[]=>k []
 |v::vs=>yt v λv=>Gj vs λvs=>k (v::vs)
end
def Me(tm:iF)(k:iF->Option R):Option R:=match tm with
 |[]=>k []
 |(t,v)::tm=>yt v λv=>Me tm λtm=>k ((t,v)::tm)
def MB(c:Cell)(k:Cell->Option R):Option R:=match c with
 | .box t cs=>Gj cs λcs=>k (.box t cs)
 | .arr fz fl ver s rows=>k (.arr fz fl ver s rows)
 | .dead=>k .dead
 | .xk ver s rows=>k (.xk ver s rows)
 | .jM t v=>yt v λv=>k (.jM t v)
 | .jB ver s rows i off=>k (.jB ver s rows i off)
def G7(m:Mem)(k:Mem->Option R):Option R:=match m with
 |[]=>k []
 |(r,c)::m=>MB c λc=>G7 m λm=>k ((r,c)::m)
def aeo(L:List (Nat×Nat))(r:Nat)(k:Nat->Option R):Option R:=match get r L with
 |some j=>k j
 |none=>k r
mutual
def F5(L:List (Nat×Nat))(v:V)(k:V->Option R):Option R:=match v with
 | .d x=>k (.d x)
 | .nil s=>k (.nil s)
 | .own r v=>aeo L r λr=>k (.own r v)
 | .ptr r o=>aeo L r λr=>k (.ptr r o)
 | .lI r v i o=>aeo L r λr=>k (.lI r v i o)
 | .lS row o=>k (.lS row o)
 | .sG v=>F5 L v λv=>k (.sG v)
 | .clo f a b=>JU L a λa=>JU L b λb=>k (.clo f a b)
 | .agg cs=>JU L cs λcs=>k (.agg cs)
 | .Gz vs=>JU L vs λvs=>k (.Gz vs)
 | .undef=>k .undef
def JU(L:List (Nat×Nat))(vs:List V)(k:List V->Option R):Option R:=match vs with
 |[]=>k []
 |v::vs=>F5 L v λv=>JU L vs λvs=>k (v::vs)
end
def Y4(L:List (Nat×Nat))(tm:iF)(k:iF->Option R):Option R:=match tm with
 |[]=>k []
 |(t,v)::tm=>F5 L v λv=>Y4 L tm λtm=>k ((t,v)::tm)
def adk(L:List (Nat×Nat))(c:Cell)(k:Cell->Option R):Option R:=match c with
 | .box t cs=>JU L cs λcs=>k (.box t cs)
 | .arr fz fl ver s rows=>k (.arr fz fl ver s rows)
 | .dead=>k .dead
 | .xk ver s rows=>k (.xk ver s rows)
 | .jM t v=>F5 L v λv=>k (.jM t v)
 | .jB ver s rows i off=>k (.jB ver s rows i off)
def TI(L:List (Nat×Nat))(m:Mem)(k:Mem->Option R):Option R:=match m with
 |[]=>k []
 |(r,c)::m=>aeo L r λr=>adk L c λc=>TI L m λm=>G7 (put r c m) k
def Y5(l:List Nat)(k:List Nat->Option R):Option R:=match l with
 |[]=>k []
 |x::l=>Y5 l λl=>k (x::l)
def TJ(l:List (Nat×Nat))(k:List (Nat×Nat)->Option R):Option R:=match l with
 |[]=>k []
 |(x,y)::l=>TJ l λl=>k ((x,y)::l)
def Y6(S:St)(k:St->Option R):Option R:=Y5 (ahu S.tm S.mem) λo=>match o with
 |[]=>k S
 |a::o=>TJ (ahv names (a::o)) λL=>match OZ L S.mem with
  |true=>Y4 L S.tm λtm=>TI L S.mem λm=>k ⟨tm,m⟩
  |false=>k S
def Y7(ops:Array Oper)(tm:iF)(o:Oper)(k:Bool->iF->Option R):Option R:=
 match o.guard with
 |none=>k true tm
 |some (j,want)=>match ops[j]? with
  |some oj=>match oj.dst with
   |some d=>match IY d tm with
    | .d (.bool b)=>match b with
     |true=>k want (put d (.d (.bool true)) tm)
     |false=>k (!want) (put d (.d (.bool false)) tm)
    | .Gz vs=>match vs with
     |[]=>k false (put d (.Gz []) tm)
     |_::_=>none
    |_=>none
   |none=>none
  |none=>none
def ab4(X:Ctx)(K:Dz)(fn:Nat)(ops:Array Oper)(i:Nat)(S:St)(k:St->Log->Option R):Option R:=
 match ops[i]? with
 |none=>none
 |some o=>Y7 ops S.tm o λb tm=>match b with
  |false=>k ⟨Q5 (yQ X.P fn) o.dst tm,S.mem⟩ .none
  |true=>(ame X K fn tm o).Y3 S.mem .none λv m l=>bif DJ (yQ X.P fn) o.dst then yt v λv=>k ⟨NJ o.dst v tm,m⟩ l else none
def MC(X:Ctx)(K:Dz)(fn:Nat)(ops:Array Oper):List Nat->St->List (Nat×Log)->(St->List (Nat×Log)->Option R)->Option R
 |[],S,L,k=>k S L
 |i::is,S,L,k=>ab4 X K fn ops i S λS' l=>MC X K fn ops is S' ((i,l)::L) k
def ak1(X:Ctx)(ops:Array Oper)(L:List (Nat×Log)):Bool->Bool
 |false=>true
 |true=>X.P.follows .mixedOrders &&(backOk ops && KL ops (Region.before ops) L)
def Y8(X:Ctx)(K:Dz)(tm:iF)(o1 o2 o3:Oper):Acc (Nat×Nat×V×V):=
 match o1,o2,o3 with
 |⟨some d1,.load t (.tmp ta),_,_,_,none⟩,⟨some d2,.move x,ty2,_,_,none⟩,⟨_,.call ⟨.value (.func f),args,_⟩,_,_,_,none⟩=>do
  ck (!(Nat.beq d1 d2) &&(ac3 args d1 d2 &&(alR d1 x &&(KF X.P t &&(Nat.beq (iM X.P t) 1 &&(!(xZ X.P t) && afj X f))))))
  let e<-op' (elT X.P t)
  match IY ta tm,ev X.P tm ty2 x with
  | .lI r ver i off,.d (.int k n)=>do
   match<-rd r with
   |some (.arr false false dP s rows)=>do
    ck (Nat.beq ver dP && Nat.ble (off+1) s)
    let row<-op' rows[i]?
    let rs<-op' (TU (iM X.P e) row off)
    ck (Ky (lJ X.P e) rs)
    let b<-op' (K f [.own jf 0,.d (.int k n)] [.arr false (lJ X.P e) 0 (iM X.P e) rs]).o
    let out:=(K f [.own jf 0,.d (.int k n)] [.arr false (lJ X.P e) 0 (iM X.P e) rs]).enc b
    let q<-op' (O1 out)
    ck (Ue (iM X.P e) (lJ X.P e) q)
    wr r (.arr false false dP s (rows.set i (splice row off [.sl true (iM X.P e) q.2.2.2.2])))
    pure (d1,d2,.d (.int k n),.d (.int q.1 q.2.1))
   |_=> .fail
  |_,_=> .fail
 |_,_,_=> .fail
def U1(X:Ctx)(K:Dz)(fn:Nat)(ops:Array Oper)(p:Nat)(S:St)(k:St->Option R):Option R:=
 match ops[p]?,ops[p+1]?,ops[p+2]? with
 |some o1,some o2,some o3=>(Y8 X K S.tm o1 o2 o3).Y3 S.mem .none λr m _=>bif Nat.blt r.1 (yQ X.P fn) &&(Nat.blt r.2.1 (yQ X.P fn) && DJ (yQ X.P fn) o3.dst) then k ⟨NJ o3.dst r.2.2.2 (put r.2.1 r.2.2.1 (put r.1 .undef S.tm)),m⟩ else none
 |_,_,_=>none
def Ou(X:Ctx)(K:Dz)(fn id:Nat)(ops:Array Oper)(draw:Bool)(S:St)(k:St->List (Nat×Log)->Option R):Option R:=
 match X.Bf.fuse fn id with
 |0=>MC X K fn ops (List.range ops.size) S [] k
 |p+1=>match draw with
  |true=>none
  |false=>MC X K fn ops (List.range p) S [] λS1 _=>U1 X K fn ops p S1 λS2=>MC X K fn ops ((List.range ops.size).drop (p+3)) S2 [] k
def Y9(X:Ctx)(K:Dz)(fn id:Nat)(ops:Array Oper)(draw:Bool)(S:St)(k:St->Option R):Option R:=
 Ou X K fn id ops draw S λS' L=>
  bif ak1 X ops L draw then(match NU (X.Bf.keep fn id) S' with
   |some S''=>Me S''.tm λtm=>G7 S''.mem λm=>Y6 ⟨tm,m⟩ k
   |none=>none) else none
def rep(k:Nat)(x:V):iF->iF
 |[]=>[]
 |(j,y)::l=>match Nat.beq k j with
  |true=>(j,x)::l
  |false=>(j,y)::rep k x l
def ahR(c:Operand)(b:Bool)(S:St):St:=match c with
 | .tmp i=>⟨rep i (.d (.bool b)) S.tm,S.mem⟩
 |_=>S
def adl{k:Nat}{x:V}:∀{l:iF},get k l=some x->rep k x l=l
 |[],h=>rfl
 |(j,y)::l,h=>by
  simp only[get] at h;rw[rep];cases hb:Nat.beq k j with
  |true=>rw[hb] at h;simp only[bZ,dG] at h;rw[h]
  |false=>rw[hb] at h;simp only;rw[adl h]
def adn{P:Program}{c:Operand}{b:Bool}{S:St}(h:ev P S.tm 0 c=.d (.bool b)):ahR c b S=S:=by
 cases c with
 |tmp i=>
  simp only[ev,IY] at h;cases hg:get i S.tm with
  |none=>rw[hg] at h;cases h
  |some v=>rw[hg] at h;simp only at h;subst h;rw[ahR,adl hg]
 |_=>rfl
def Ov(X:Ctx)(K:Dz)(L:Il)(fn:Nat):Code->St->(Ex->St->Option R)->Option R
 | .skip,S,k=>k .normal S
 | .region id ops draw,S,k=>Y9 X K fn id ops draw S λS'=>k .normal S'
 | .seq a b,S,k=>Ov X K L fn a S λe S'=>match e with
  | .normal=>Ov X K L fn b S' k
  |e=>k e S'
 | .cond c a b,S,k=>match ev X.P S.tm 0 c with
  | .d (.bool t)=>(match t with
   |true=>Ov X K L fn a (ahR c true S) k
   |false=>Ov X K L fn b (ahR c false S) k)
  |_=>none
 | .block id c,S,k=>Ov X K L fn c S λe S'=>match e with
  | .exit j=>bif Nat.beq j id then k .normal S' else k (.exit j) S'
  |e=>k e S'
 | .loop c,S,k=>match(L (lid c) S).o with
  |some b=>(L (lid c) S).alt.go b λr=>k r.1 r.2
  |none=>none
 | .exit id,S,k=>k (.exit id) S
 | .ret,S,k=>k .ret S
 |_,_,_=>none
def Za(X:Ctx)(g:Func)(n:Nat)(S:St)(k:List Row->List Cell->Option R):Option R:=
 (do
  let rows<-LY X.P S.tm g.results.toList g.resultTypes.toList
  let cells<-KI X.Bf (nM n) (nM n)
  pure (rows,cells):Acc (List Row×List Cell)).Y3 S.mem .none λr _ _=>k r.1 r.2
def bodyC(X:Ctx)(K:Dz)(L:Il)(f:Nat)(args:List V)(cells:List Cell)(k:List Row->List Cell->Option R):Option R:=
 match X.P.funcs[f]? with
 |some g=>match g.body with
  |some c=>bif !(Nat.ble cells.length jf && Nat.ble args.length g.ntmps) then none else(entry X f g args cells).Y3 (kP 0 cells) .none λtm m _=>
   Me tm λtm=>G7 m λm=>Ov X K L f c ⟨tm,m⟩ λe S=>match e with
    | .normal=>Za X g cells.length S k
    | .ret=>Za X g cells.length S k
    | .exit _=>none
  |none=>none
 |none=>none
def TK{α:Type}(A:Acc α):∀(m:Mem) (l:Log) (k:α->Mem->Log->Option R),A.Y3 m l k=(A.run m l).bind λr=>k r.1 r.2.1 r.2.2:=by
 induction A with
 |ret a=>intro m l k;rfl
 |fail=>intro m l k;rfl
 |get i c ih=>intro m l k;exact ih _ _ _ _
 |set i x c ih=>intro m l k;exact ih _ _ _
 |opt o c ih=>intro m l k;cases o with
  |none=>rfl
  |some b=>exact ih b _ _ _
 |guard b c ih=>intro m l k;cases b with
  |false=>rfl
  |true=>exact ih _ _ _
def aep(x:D)(k:D->Option R):afU x k=k x:=by
 cases x with
 |sl o s rows=>cases o<;>rfl
 |_=>rfl
mutual
def Jl:∀(v:V) (k:V->Option R),yt v k=k v
 | .d x,k=>by simp only[yt,aep]
 | .nil s,k=>by simp only[yt]
 | .own r v,k=>by simp only[yt]
 | .ptr r o,k=>by simp only[yt]
 | .lI r v i o,k=>by simp only[yt]
 | .lS row o,k=>by simp only[yt]
 | .sG v,k=>by simp only[yt];rw[Jl v]
 | .clo f a b,k=>by simp only[yt];rw[DY a,DY b]
 | .agg cs,k=>by simp only[yt];rw[DY cs]
 | .Gz cs,k=>by simp only[yt];rw[DY cs]
 | .undef,k=>by simp only[yt]
def DY:∀(vs:List V) (k:List V->Option R),Gj vs k=k vs
 |[],k=>by simp only[Gj]
 |v::vs,k=>by simp only[Gj];rw[Jl v,DY vs]
end
def Ox:∀(tm:iF) (k:iF->Option R),Me tm k=k tm
 |[],k=>rfl
 |(t,v)::tm,k=>by simp only[Me];rw[Jl v,Ox tm]
def Zb(c:Cell)(k:Cell->Option R):MB c k=k c:=by
 cases c with
 |box t cs=>simp only[MB,DY]
 |jM t v=>simp only[MB,Jl]
 |_=>rfl
def Io:∀(m:Mem) (k:Mem->Option R),G7 m k=k m
 |[],k=>rfl
 |(t,v)::m,k=>by simp only[G7];rw[Zb v,Io m]
def TL(L:List (Nat×Nat))(r:Nat)(k:Nat->Option R):aeo L r k=k (ren L r):=by unfold aeo ren;cases get r L<;>rfl
mutual
def PK(L:List (Nat×Nat)):∀(v:V) (k:V->Option R),F5 L v k=k (FM L v)
 | .d x,k=>by simp only[F5,FM]
 | .nil s,k=>by simp only[F5,FM]
 | .own r v,k=>by simp only[F5,FM,TL]
 | .ptr r o,k=>by simp only[F5,FM,TL]
 | .lI r v i o,k=>by simp only[F5,FM,TL]
 | .lS row o,k=>by simp only[F5,FM]
 | .sG v,k=>by simp only[F5,FM];rw[PK L v]
 | .clo f a b,k=>by simp only[F5,FM];rw[GH L a,GH L b]
 | .agg cs,k=>by simp only[F5,FM];rw[GH L cs]
 | .Gz vs,k=>by simp only[F5,FM];rw[GH L vs]
 | .undef,k=>by simp only[F5,FM]
def GH(L:List (Nat×Nat)):∀(vs:List V) (k:List V->Option R),JU L vs k=k (KJ L vs)
 |[],k=>by simp only[JU,KJ]
 |v::vs,k=>by simp only[JU,KJ];rw[PK L v,GH L vs]
end
def XQ(L:List (Nat×Nat)):∀(tm:iF) (k:iF->Option R),Y4 L tm k=k (Ud L tm)
 |[],k=>rfl
 |(t,v)::tm,k=>by simp only[Y4,Ud];rw[PK L v,XQ L tm]
def afV(L:List (Nat×Nat))(c:Cell)(k:Cell->Option R):adk L c k=k (Uc L c):=by
 cases c with
 |box t cs=>simp only[adk,Uc,GH]
 |jM t v=>simp only[adk,Uc,PK]
 |_=>rfl
def U2(L:List (Nat×Nat)):∀(m:Mem) (k:Mem->Option R),TI L m k=k (GR L m)
 |[],k=>rfl
 |(r,c)::m,k=>by simp only[TI,GR,TL,afV];rw[U2 L m,Io]
def XR:∀(l:List Nat) (k:List Nat->Option R),Y5 l k=k l
 |[],k=>rfl
 |x::l,k=>by simp only[Y5];rw[XR l]
def U3:∀(l:List (Nat×Nat)) (k:List (Nat×Nat)->Option R),TJ l k=k l
 |[],k=>rfl
 |(x,y)::l,k=>by simp only[TJ];rw[U3 l]
def aer(S:St)(k:St->Option R):Y6 S k=k (canon S):=by
 unfold Y6 canon;rw[XR];cases ahu S.tm S.mem with
 |nil=>rfl
 |cons a o=>
  simp only[U3,YK];cases OZ (ahv names (a::o)) S.mem with
  |true=>simp only[XQ,U2]
  |false=>rfl
def zS{α:Type}(a b:Acc α):Prop:=∀m l,a.run m l=b.run m l
def zS.refl{α:Type}(a:Acc α):zS a a:=λ_ _=>rfl
def zS.bind{α β:Type}{a:Acc α}{f g:α->Acc β}(h:∀x,zS (f x) (g x)):zS (a>>=f) (a>>=g):=by
 intro m l;rw[run_bind,run_bind];cases a.run m l with
 |none=>rfl
 |some r=>obtain⟨x,m,l⟩:=r;exact h x m l
def zS.enc{α β γ:Type}{o:Option β}{enc:β->α}{f:α->Acc γ}:zS (op' o>>=λb=>f (enc b)) (op' (o.map enc)>>=f):=by intro m l;rw[run_bind,run_bind];cases o<;>rfl
def ab5{X:Ctx}{K:Dz}{fn dst f:Nat}{args:List V}{m:Mem}{l:Log}:(ab3 X K fn dst f args).run m l=(OX X K.to fn dst f args).run m l:=by
 revert m l;show zS _ _;unfold ab3 OX;refine zS.bind λg=>zS.bind λ_=>zS.bind λargs=>zS.bind λcells=>zS.bind fun⟨args,Fg⟩=>zS.bind λ_=> ?_
 exact zS.enc (o:=(K f args cells).o) (enc:=(K f args cells).enc) (f:=λout=>do
  ck (Nat.beq out.1.length g.resultTypes.size)
  ck (bif(!(Fg.isEmpty) &&(LX X.P (X.Bf.OU fn dst) 0 g.resultTypes.toList &&(F7 X.Bf _ 0 [] _).isEmpty)) then out.1.all bY else true)
  freeze (bif(!(Fg.isEmpty) &&(LX X.P (X.Bf.OU fn dst) 0 g.resultTypes.toList &&(F7 X.Bf _ 0 [] _).isEmpty)) then[] else Fg)
  QZ X dst out.2 0 (F7 X.Bf _ 0 [] _)
  let vs<-NR X (X.Bf.OU fn dst) dst out.1 0 g.resultTypes.toList
  match vs with
  |[v]=>pure v
  |vs=>pure (.Gz vs))
def afW{X:Ctx}{K:Dz}{fn:Nat}{tm:iF}{o:Oper}{m:Mem}{l:Log}:(ame X K fn tm o).run m l=(Xj X K.to fn tm o).run m l:=by
 obtain⟨dst,op,type,pos,after,guard⟩:=o;cases op<;>try rfl
 case call c=>
  obtain⟨callee,args,tys⟩:=c;cases callee with
  |value f=>
   simp only[ame,Xj];cases ev X.P tm 0 f with
   |clo g a b=>exact ab5
   |_=>rfl
  |invoke r m=>rfl
  |builtin b=>cases b<;>rfl
 case makeFunc f a b=>cases f<;>rfl
 case slice a b c d e=>cases e<;>rfl
def ab6(ops:Array Oper)(tm:iF)(o:Oper)(k:Bool->iF->Option R):Y7 ops tm o k=(vK ops tm o).bind λr=>k r.1 r.2:=by
 unfold Y7 vK;cases o.guard with
 |none=>rfl
 |some jw=>
  obtain⟨j,want⟩:=jw;simp only;cases ops[j]? with
  |none=>rfl
  |some oj=>
   simp only;cases oj.dst with
   |none=>rfl
   |some d=>
    simp only;cases IY d tm with
    |d x=>cases x with
     |bool b=>cases b<;>rfl
     |_=>rfl
    |Gz vs=>cases vs<;>rfl
    |_=>rfl
def aes(X:Ctx)(K:Dz)(fn:Nat)(ops:Array Oper)(i:Nat)(S:St)(k:St->Log->Option R):ab4 X K fn ops i S k=(sD X K.to fn ops i S).bind λr=>k r.1 r.2:=by
 unfold ab4 sD;cases ops[i]? with
 |none=>rfl
 |some o=>
  simp only[ab6];cases vK ops S.tm o with
  |none=>rfl
  |some r=>
   obtain⟨b,tm⟩:=r;cases b with
   |false=>rfl
   |true=>
    simp only[Option.bind_some,TK,afW];cases(Xj X K.to fn tm o).run S.mem .none with
    |none=>rfl
    |some r=>
     obtain⟨v,m,l⟩:=r;simp only[Option.bind_some];cases DJ (yQ X.P fn) o.dst with
     |false=>rfl
     |true=>simp only[bZ,Jl];rfl
def Oy(X:Ctx)(K:Dz)(fn:Nat)(ops:Array Oper):∀(is:List Nat) (S:St) (L:List (Nat×Log)) (k:St->List (Nat×Log)->Option R),MC X K fn ops is S L k=(pq X K.to fn ops is S L).bind λr=>k r.1 r.2
 |[],S,L,k=>rfl
 |i::is,S,L,k=>by
  simp only[MC,Qw,aes];cases sD X K.to fn ops i S with
  |none=>rfl
  |some r=>simp only[Option.bind_some];exact Oy X K fn ops is _ _ k
def aay{X:Ctx}{K:Dz}{tm:iF}{o1 o2 o3:Oper}{m:Mem}{l:Log}:(Y8 X K tm o1 o2 o3).run m l=(FN X K.to tm o1 o2 o3).run m l:=by
 revert m l;show zS _ _;unfold Y8 FN;split
 ·rename_i d1 t ta _ _ _ d2 x ty2 _ _ _ f args _ _ _ _;refine zS.bind λ_=>zS.bind λe=> ?_
  generalize IY ta tm=ga;generalize ev X.P tm ty2 x=kv;cases ga with
  |lI r ver i off=>
   cases kv with
   |d y=>
    cases y with
    |int k n=>
     refine zS.bind λc=> ?_
     cases c with
     |none=>exact zS.refl _
     |some c=>cases c with
      |arr fz fl dP s rows=>cases fz with
       |true=>exact zS.refl _
       |false=>cases fl with
        |true=>exact zS.refl _
        |false=>
         refine zS.bind λ_=>zS.bind λrow=>zS.bind λrs=>zS.bind λ_=> ?_
         exact zS.enc (o:=(K f [.own jf 0,.d (.int k n)] [.arr false (lJ X.P e) 0 (iM X.P e) rs]).o) (enc:=(K f [.own jf 0,.d (.int k n)] [.arr false (lJ X.P e) 0 (iM X.P e) rs]).enc) (f:=λout=>do
          let q<-op' (O1 out)
          ck (Ue (iM X.P e) (lJ X.P e) q)
          wr r (.arr false false dP s (rows.set i (splice row off [.sl true (iM X.P e) q.2.2.2.2])))
          pure (d1,d2,V.d (.int k n),V.d (.int q.1 q.2.1)))
      |_=>exact zS.refl _
    |_=>exact zS.refl _
   |_=>exact zS.refl _
  |_=>exact zS.refl _
 ·rename_i hno;split
  ·exfalso;apply hno<;>rfl
  ·exact zS.refl _
def aaz(X:Ctx)(K:Dz)(fn:Nat)(ops:Array Oper)(p:Nat)(S:St)(k:St->Option R):U1 X K fn ops p S k=(yR X K.to fn ops p S).bind k:=by
 simp only[U1,Om];cases ops[p]? with
 |none=>rfl
 |some o1=>cases ops[p+1]? with
  |none=>rfl
  |some o2=>cases ops[p+2]? with
   |none=>rfl
   |some o3=>
    simp only[TK,aay];cases(FN X K.to S.tm o1 o2 o3).run S.mem .none with
    |none=>rfl
    |some r=>simp only[Option.bind_some];cases(Nat.blt r.1.1 (yQ X.P fn) &&(Nat.blt r.1.2.1 (yQ X.P fn) && DJ (yQ X.P fn) o3.dst))<;>rfl
def WV(X:Ctx)(K:Dz)(fn id:Nat)(ops:Array Oper)(draw:Bool)(S:St)(k:St->List (Nat×Log)->Option R):Ou X K fn id ops draw S k=(sS X K.to fn id ops draw S).bind λr=>k r.1 r.2:=by
 simp only[Ou,JR];cases X.Bf.fuse fn id with
 |zero=>simp only[Oy]
 |succ p=>
  cases draw with
  |true=>rfl
  |false=>
   simp only[Oy,aaz];cases pq X K.to fn ops (List.range p) S [] with
   |none=>rfl
   |some r=>simp only[Option.bind_some];cases yR X K.to fn ops p r.1<;>rfl
def ab7(X:Ctx)(K:Dz)(fn id:Nat)(ops:Array Oper)(draw:Bool)(S:St)(k:St->Option R):Y9 X K fn id ops draw S k=(region X K.to fn id ops draw S).bind k:=by
 simp only[Y9,Qx,WV];cases sS X K.to fn id ops draw S with
 |none=>rfl
 |some r=>
  simp only[Option.bind_some];have hp:(match NU (X.Bf.keep fn id) r.1 with
   |some S''=>Me S''.tm λtm=>G7 S''.mem λm=>Y6 ⟨tm,m⟩ k
   |none=>none)=(prune (X.Bf.keep fn id) r.1).bind k:=by
   unfold prune;cases NU (X.Bf.keep fn id) r.1 with
   |none=>rfl
   |some S''=>simp only[Ox,Io,aer];rfl
  rw[hp];cases draw with
  |false=>rfl
  |true=>simp only[ak1];cases(X.P.follows .mixedOrders &&(backOk ops && KL ops (Region.before ops) r.2))<;>rfl
def ado(X:Ctx)(K:Dz)(L:Il)(fn:Nat)(c:Code):∀(S:St) (k:Ex->St->Option R),Ov X K L fn c S k=(zL X K.to L.to fn c S).bind λr=>k r.1 r.2:=by
 induction c with
 |skip=>intro S k;rfl
 |region id ops draw=>intro S k;simp only[Ov,zL,ab7];cases region X K.to fn id ops draw S<;>rfl
 |seq a b iha ihb=>
  intro S k;simp only[Ov,zL,iha];cases zL X K.to L.to fn a S with
  |none=>rfl
  |some r=>
   obtain⟨e,S'⟩:=r;cases e with
   |normal=>exact ihb S' k
   |exit id=>rfl
   |ret=>rfl
 |cond c a b iha ihb=>
  intro S k;simp only[Ov,zL,MZ];cases hev:ev X.P S.tm 0 c with
  |d x=>cases x with
   |bool t=>cases t with
    |true=>simp only[adn hev];exact iha S k
    |false=>simp only[adn hev];exact ihb S k
   |_=>rfl
  |_=>rfl
 |block id c ih=>
  intro S k;simp only[Ov,zL,ih];cases zL X K.to L.to fn c S with
  |none=>rfl
  |some r=>
   obtain⟨e,S'⟩:=r;cases e with
   |normal=>rfl
   |ret=>rfl
   |exit j=>simp only[Option.bind_some];cases Nat.beq j id<;>rfl
 |loop c ih=>intro S k;simp only[Ov,zL,Il.to,Ot.val,Alt.go_eq];cases(L (lid c) S).o<;>rfl
 |exit id=>intro S k;rfl
 |ret=>intro S k;rfl
 |_=>intro S k;rfl
def XT(X:Ctx)(g:Func)(n:Nat)(S:St)(k:List Row->List Cell->Option R):Za X g n S k=(leave X g n S).bind λr=>k r.1 r.2:=by
 simp only[Za,leave,TK];split
 ·rename_i r m l he;simp only[he];rfl
 ·rename_i he;simp only[he];rfl
def afX(X:Ctx)(K:Dz)(L:Il)(f:Nat)(args:List V)(cells:List Cell)(k:List Row->List Cell->Option R):bodyC X K L f args cells k=(RQ X K.to L.to f args cells).bind λr=>k r.1 r.2:=by
 simp only[bodyC,RQ];cases X.P.funcs[f]? with
 |none=>rfl
 |some g=>
  simp only;cases g.body with
  |none=>rfl
  |some c=>
   simp only;generalize (!(Nat.ble cells.length jf && Nat.ble args.length g.ntmps))=q;cases q with
   |true=>rfl
   |false=>
    simp only[dX,TK];cases(entry X f g args cells).run (kP 0 cells) .none with
    |none=>rfl
    |some r=>
     obtain⟨tm,m,l⟩:=r;simp only[Option.bind_some,Ox,Io,ado];cases zL X K.to L.to f c ⟨tm,m⟩ with
     |none=>rfl
     |some r=>
      obtain⟨e,S⟩:=r;cases e with
      |normal=>simp only[Option.bind_some,XT]
      |ret=>simp only[Option.bind_some,XT]
      |exit j=>rfl
end
def afY{X:Ctx}{K:Dz}{L:Il}{f:Nat}{args:List V}{cells:List Cell}{r:List Row×List Cell}(hp:X.MN f=none)(hK:XL K.to (call X))(hL:ZT X (call X) f L.to (loops (codeOf X.P f)))
  (h:bodyC X K L f args cells (λa b=>some (a,b))=some r):call X f args cells=some r:=by
 refine afT hp hK hL ?_;rw[afX] at h;cases hb:RQ X K.to L.to f args cells with
 |none=>rw[hb] at h;cases h
 |some q=>rw[hb] at h;exact h
def ahS{X:Ctx}{K:Dz}{L:Il}{fn:Nat}{c:Code}{S:St}{r:Ex×St}(hK:XL K.to (call X))(hL:ZT X (call X) fn L.to (loops c))(h:Ov X K L fn c S (λa b=>some (a,b))=some r):den X (call X) fn c S=some r:=by
 refine ahQ hK hL ?_;rw[ado] at h;cases hb:zL X K.to L.to fn c S with
 |none=>rw[hb] at h;cases h
 |some q=>rw[hb] at h;exact h
end Go.Vm
namespace Go.Vm
open Go
open Go.IntKind (i64)
def iterM{σ τ:Type}(b:σ->Option (σ⊕τ)):Nat->σ->Option τ
 |0,_=>none
 |n+1,s=>match b s with
  |some (.inl s')=>iterM b n s'
  |some (.inr t)=>some t
  |none=>none
def Oz{σ τ:Type}{b:σ->Option (σ⊕τ)}:∀{n k:Nat} {s:σ} {t:τ},iterM b n s=some t->n<=k->iterM b k s=some t
 |0,_,_,_,h,_=>by simp[iterM] at h
 |n+1,0,_,_,_,hk=>by omega
 |n+1,k+1,s,t,h,hk=>by
  simp only[iterM] at h|-;cases hb:b s with
  |none=>simp[hb] at h
  |some q=>
   rw[hb] at h;cases q with
   |inl s'=>exact Oz h au
   |inr t'=>exact h
noncomputable def fG{σ τ:Type}(b:σ->Option (σ⊕τ))(s:σ):Option τ:=lim λn=>iterM b n s
def PL{σ τ:Type}{b:σ->Option (σ⊕τ)}{s:σ}{t:τ}{n:Nat}(h:iterM b n s=some t):fG b s=some t:=by
 refine yj h λm y hy=> ?_
 have h1:=Oz h (Nat.le_max_left n m);rw[Oz hy (Nat.le_max_right n m)] at h1;exact Option.some.inj h1
def OA{σ τ:Type}{b:σ->Option (σ⊕τ)}{s:σ}{t:τ}(h:fG b s=some t):∃n,iterM b n s=some t:=Jk h
def iD{σ τ:Type}{b:σ->Option (σ⊕τ)}{s s':σ}(h:b s=some (.inl s')):fG b s=fG b s':=by
 cases hl:fG b s' with
 |some t=>obtain⟨n,hn⟩:=OA hl;exact PL (n:=n+1) (by simp only[iterM,h];exact hn)
 |none=>
  cases hs:fG b s with
  |none=>rfl
  |some t=>
   obtain⟨n,hn⟩:=OA hs;cases n with
   |zero=>simp[iterM] at hn
   |succ n=>simp only[iterM,h] at hn;rw[PL hn] at hl;cases hl
def dJ{σ τ:Type}{b:σ->Option (σ⊕τ)}{s:σ}{t:τ}(h:b s=some (.inr t)):fG b s=some t:=
 PL (n:=1) (by simp only[iterM,h])
def lU{σ τ:Type}{b:σ->Option (σ⊕τ)}{t:τ}(st:Nat->σ)(n:Nat)(h:∀i,i<n->b (st i)=some (.inl (st (i+1))))(he:b (st n)=some (.inr t)):∀i,i<=n->fG b (st i)=some t:=by
 intro i hi;obtain⟨d,rfl⟩:∃d,n=i+d:=⟨n - i,au⟩
 induction d generalizing i with
 |zero=>exact dJ he
 |succ d ih=>rw[iD (h i au),ih (i+1) (λj hj=>h j au) (by rw[show i+1+d=i+(d+1) by omega];exact he) au]
def ab8{σ τ:Type}{b:σ->Option (σ⊕τ)}{D:St->Option (Ex×St)}{tm:σ->St}{tx:τ->Ex×St}
  (h:∀s r,b s=some r->D (tm s)=some (match r with| .inl s'=>(.normal,tm s')| .inr t=>tx t)) (hx:∀t,(tx t).1≠.normal) {s:σ} {t:τ} (hl:fG b s=some t):Ig D (tm s)=some (tx t):=by
 obtain⟨n,hn⟩:=OA hl;induction n generalizing s with
 |zero=>simp[iterM] at hn
 |succ n ih=>
  simp only[iterM] at hn;cases hb:b s with
  |none=>simp[hb] at hn
  |some q=>
   rw[hb] at hn;have hd:=h s q hb;cases q with
   |inl s'=>have hl':=ih (PL hn) hn;obtain⟨k,hk⟩:=Oq hl';refine PI (n:=k+1) ?_;simp only[iter,hd];exact hk
   |inr t'=>
    simp only[dG] at hn;subst hn;refine PI (n:=1) ?_;simp only[iter,hd];have:=hx t';cases ht:tx t' with
    |mk e S=>cases e with
     |normal=>rw[ht] at this;exact absurd rfl this
     |exit id=>rfl
     |ret=>rfl
def apf(X:Ctx)(f n:Nat)(c:Code)(P:St->Ot (Ex×St)):Prop:=lid c=n/\∀S r,(P S).val=some r->Ig (den X (call X) f c) S=some r
def findLoop(n:Nat):Code->Option Code
 | .seq a b=>match findLoop n a with
  |some c=>some c
  |none=>findLoop n b
 | .cond _ a b=>match findLoop n a with
  |some c=>some c
  |none=>findLoop n b
 | .block _ c=>findLoop n c
 | .loop c=>bif Nat.beq (lid c) n then some c else findLoop n c
 |_=>none
def Lj(P:Program)(f n:Nat):Code:=match findLoop n (codeOf P f) with
 |some c=>c
 |none=> .skip
def afZ{X:Ctx}{K:Dz}{L:Il}{f:Nat}{args:List V}{cells:List Cell}{ρ:Type}{o:Option ρ}{enc:ρ->List Row×List Cell}(hp:X.MN f=none)(hK:XL K.to (call X))(hL:ZT X (call X) f L.to (loops (codeOf X.P f)))
  (h:bodyC X K L f args cells (λa b=>some (a,b))=o.bind λr=>some (enc r)) {r:ρ} (hr:o=some r):call X f args cells=some (enc r):=by
 refine afY hp hK hL ?_;rw[h,hr];rfl
def af0{X:Ctx}{K:Dz}{L:Il}{f:Nat}{c:Code}{σ τ:Type}{b:σ->Option (σ⊕τ)}{tm:σ->St}{tx:τ->Ex×St}(hK:XL K.to (call X))(hL:ZT X (call X) f L.to (loops c))
  (h:∀s,Ov X K L f c (tm s) (λa b=>some (a,b))=(b s).bind λr=>some (match r with| .inl s'=>(.normal,tm s')| .inr t=>tx t)) (hx:∀t,(tx t).1≠.normal) {s:σ} {t:τ} (hl:fG b s=some t):
  Ig (den X (call X) f c) (tm s)=some (tx t):=by
 refine ab8 (λs r hr=> ?_) hx hl;refine ahS hK hL ?_;rw[h s,hr];rfl
def af4{α β:Type}(c:Bool)(a b:Option α)(f:α->Option β):(bif c then a else b).bind f=bif c then a.bind f else b.bind f:=by cases c<;>rfl
def aeu{α β γ:Type}(o:Option α)(g:α->Option β)(f:β->Option γ):(o.bind g).bind f=o.bind λx=>(g x).bind f:=by cases o<;>rfl
def aj{α β:Type}(a:α)(f:α->Option β):(some a).bind f=f a:=rfl
def aev{α β:Type}(f:α->Option β):(none:Option α).bind f=none:=rfl
def aew{α β:Type}(o:Option α)(n:Option β)(f:α->Option β):Option β:=match o with
 |none=>n
 |some x=>f x
def letE{α β:Type}(x:α)(f:α->Option β):Option β:=f x
def XU{α β γ:Type}(o:Option α)(n:Option β)(f:α->Option β)(g:β->Option γ):(aew o n f).bind g=aew o (n.bind g) λx=>(f x).bind g:=by cases o<;>rfl
def XV{α β γ δ:Type}(r:α⊕β)(f:α->Option γ)(g:β->Option γ)(k:γ->Option δ):(qy r f g).bind k=qy r (λx=>(f x).bind k) (λy=>(g y).bind k):=by cases r<;>rfl
def XW{α β γ:Type}(x:α)(f:α->Option β)(g:β->Option γ):(letE x f).bind g=letE x λy=>(f y).bind g:=rfl
def apf.at{X:Ctx}{f n:Nat}{c:Code}{P:St->Ot (Ex×St)}{L:Il}(h:apf X f n c P)(hL:∀S,L n S=P S):∀S r,L.to (lid c) S=some r->Ig (den X (call X) f c) S=some r:=by intro S r hr;rw[h.1,Il.to,hL] at hr;exact h.2 S r hr
end Go.Vm
namespace Go.Vm
open Go
open Go.IntKind (i64)
set_option linter.unusedVariables false
structure Pt(β:Type) where
 α:Type
 enc:α->β
 dec:β->Option α
 ok:∀b x,dec b=some x->b=enc x
noncomputable section
def pS:Pt V:=⟨List UInt8,λs=> .d (.str s),λv=>match v with| .d (.str s)=>some s|_=>none,by intro b x h;split at h<;>simp_all⟩
def pK(k:IntKind):Pt V:=⟨Int,λn=> .d (.int k n),λv=>match v with| .d (.int k' n)=>(match decEq k' k with| .isTrue _=>some n| .isFalse _=>none)|_=>none,by
 intro b x h;split at h
 ·split at h<;>simp_all
 ·cases h⟩
def pI:Pt V:=pK .i64
def pB:Pt V:=⟨Bool,λs=> .d (.bool s),λv=>match v with| .d (.bool s)=>some s|_=>none,by intro b x h;split at h<;>simp_all⟩
def pL(o:Bool)(s:Nat):Pt V:=⟨List Row,λr=> .d (.sl o s r),λv=>match v with| .d (.sl o' s' r)=>bif(o==o') && Nat.beq s s' then some r else none|_=>none,by
 intro b x h;split at h
 ·rename_i o' s' r;cases ho:(o==o')<;>cases hs:Nat.beq s s'<;>simp only[ho,hs,Bool.and_true,Bool.and_false,Bool.false_and,bZ,dX,dG] at h
  all_goals first|cases h;done|skip
  cases h;rw[beq_iff_eq] at ho;rw[lq hs,ho]
 ·cases h⟩
def pZ{β:Type}(v:β)(t:β->Bool)(h:∀b,t b=true->b=v):Pt β:=⟨Unit,λ_=>v,λb=>bif t b then some () else none,by
 intro b x e;cases ht:t b with
 |true=>exact h b ht
 |false=>rw[ht] at e;cases e⟩
def af5(s:Nat):Pt V:=pZ (.nil s) (λv=>match v with| .nil t=>Nat.beq s t|_=>false) (by
 intro b h;split at h
 ·rw[lq h]
 ·cases h)
def ab9{a b:Bool}(h:(a && b)=true):a=true/\b=true:=by simpa using h
def pO(r n:Nat):Pt V:=pZ (.own r n) (λv=>match v with| .own a b=>Nat.beq r a && Nat.beq n b|_=>false) (by
 intro b h;split at h
 ·obtain⟨h1,h2⟩:=ab9 h;rw[lq h1,lq h2]
 ·cases h)
def pP(r n:Nat):Pt V:=pZ (.ptr r n) (λv=>match v with| .ptr a b=>Nat.beq r a && Nat.beq n b|_=>false) (by
 intro b h;split at h
 ·obtain⟨h1,h2⟩:=ab9 h;rw[lq h1,lq h2]
 ·cases h)
def pE(r n o:Nat):Pt V:=⟨Nat,λi=> .lI r n i o,λv=>match v with| .lI a b i c=>bif Nat.beq r a &&(Nat.beq n b && Nat.beq o c) then some i else none|_=>none,by
 intro b x h;split at h
 ·rename_i a b' i c;cases ht:(Nat.beq r a &&(Nat.beq n b' && Nat.beq o c)) with
  |false=>rw[ht] at h;cases h
  |true=>rw[ht] at h;obtain⟨h1,h2⟩:=ab9 ht;obtain⟨h2,h3⟩:=ab9 h2;cases h;rw[lq h1,lq h2,lq h3]
 ·cases h⟩
def apg{β:Type}(p:Pt β)(q:Pt (List β)):Pt (List β):=⟨p.α×q.α,λx=>p.enc x.1::q.enc x.2,λl=>match l with|a::b=>(match p.dec a with|some x=>(match q.dec b with|some y=>some (x,y)|none=>none)|none=>none)|[]=>none,by
 intro b x h;split at h
 ·split at h
  ·rename_i hp;split at h
   ·rename_i hq;cases h;rw[p.ok _ _ hp,q.ok _ _ hq]
   ·cases h
  ·cases h
 ·cases h⟩
def aug{β:Type}:Pt (List β):=pZ [] (λl=>match l with|[]=>true|_=>false) (by intro b h;split at h<;>simp_all)
def pl{β:Type}(l:List (Pt β)):Pt (List β):=List.rec aug (λp _ q=>apg p q) l
def ahT(f:Nat)(a b:List (Pt V)):Pt V:=⟨(pl a).α×(pl b).α,λx=> .clo f ((pl a).enc x.1) ((pl b).enc x.2),λv=>match v with| .clo g x y=>bif Nat.beq f g then(match(pl a).dec x with|some x=>(match(pl b).dec y with|some y=>some (x,y)|none=>none)|none=>none) else none|_=>none,by
 intro v x h;split at h
 ·rename_i g u w;cases ht:Nat.beq f g with
  |false=>rw[ht] at h;cases h
  |true=>
   rw[ht,bZ] at h;split at h
   ·rename_i hp;split at h
    ·rename_i hq;cases h;rw[(pl a).ok _ _ hp,(pl b).ok _ _ hq,lq ht]
    ·cases h
   ·cases h
 ·cases h⟩
def IG(a:List (Pt V)):Pt V:=⟨(pl a).α,λx=> .agg ((pl a).enc x),λv=>match v with| .agg x=>(pl a).dec x|_=>none,by
 intro v x h;split at h
 ·rw[(pl a).ok _ _ h]
 ·cases h⟩
def cB(t:TypeId)(a:List (Pt V)):Pt Cell:=⟨(pl a).α,λx=> .box t ((pl a).enc x),λv=>match v with| .box u x=>bif Nat.beq t u then(pl a).dec x else none|_=>none,by
 intro v x h;split at h
 ·rename_i u y;cases ht:Nat.beq t u with
  |false=>rw[ht] at h;cases h
  |true=>rw[ht,bZ] at h;rw[(pl a).ok _ _ h,lq ht]
 ·cases h⟩
def cA(z l:Bool)(n s:Nat):Pt Cell:=⟨List Row,λr=> .arr z l n s r,λv=>match v with| .arr z' l' n' s' r=>bif(z==z') &&((l==l') &&(Nat.beq n n' && Nat.beq s s')) then some r else none|_=>none,by
 intro b x h;split at h
 ·rename_i z' l' n' s' r;cases ht:((z==z') &&((l==l') &&(Nat.beq n n' && Nat.beq s s'))) with
  |false=>rw[ht] at h;cases h
  |true=>rw[ht] at h;obtain⟨h1,h2⟩:=ab9 ht;obtain⟨h2,h3⟩:=ab9 h2;obtain⟨h3,h4⟩:=ab9 h3;cases h;rw[beq_iff_eq] at h1 h2;rw[h1,h2,lq h3,lq h4]
 ·cases h⟩
def dZ{β:Type}(n:Nat)(p:Pt β):Pt (Nat×β):=⟨p.α,λx=>(n,p.enc x),λy=>bif Nat.beq n y.1 then p.dec y.2 else none,by
 intro y x h;cases ht:Nat.beq n y.1 with
 |false=>rw[ht] at h;cases h
 |true=>rw[ht,bZ] at h;rw[<-p.ok _ _ h,lq ht]⟩
def Ia(t:List (Pt (Nat×V)))(m:List (Pt (Nat×Cell))):Pt St:=⟨(pl t).α×(pl m).α,λx=>⟨(pl t).enc x.1,(pl m).enc x.2⟩,λS=>match(pl t).dec S.tm with|some x=>(match(pl m).dec S.mem with|some y=>some (x,y)|none=>none)|none=>none,by
 intro S x h;split at h
 ·rename_i hp;split at h
  ·rename_i hq;cases h;cases S;have e1:=(pl t).ok _ _ hp;have e2:=(pl m).ok _ _ hq;simp only at e1 e2;rw[e1,e2]
  ·cases h
 ·cases h⟩
def pOr{β:Type}(p q:Pt β):Pt β:=⟨p.α⊕q.α,λx=>match x with| .inl x=>p.enc x| .inr y=>q.enc y,λb=>match p.dec b with|some x=>some (.inl x)|none=>(match q.dec b with|some y=>some (.inr y)|none=>none),by
 intro b x h;split at h
 ·rename_i hp;cases h;exact p.ok _ _ hp
 ·split at h
  ·rename_i hq;cases h;exact q.ok _ _ hq
  ·cases h⟩
structure fK where
 f:Nat
 p:Pt (List V)
 q:Pt (List Cell)
 ρ:Type
 enc:ρ->List Row×List Cell
@[reducible] def sg(f:Nat)(a:List (Pt V))(c:List (Pt Cell)){ρ:Type}(enc:ρ->List Row×List Cell):fK:=⟨f,pl a,pl c,ρ,enc⟩
abbrev fK.α(S:fK):Type:=S.p.α×S.q.α
def fK.ok(S:fK)(X:Ctx)(o:S.α->Option S.ρ):Prop:=∀x r,o x=some r->call X S.f (S.p.enc x.1) (S.q.enc x.2)=some (S.enc r)
structure FE(X:Ctx) where
 f:Nat
 P:List V->List Cell->Option (Res (List Row×List Cell))
 ok:∀a c q r,P a c=some q->q.val=some r->call X f a c=some r
def fe{X:Ctx}{S:fK}{o:S.α->Option S.ρ}(h:S.ok X o):FE X:=⟨S.f,λa c=>match S.p.dec a with|some x=>(match S.q.dec c with|some y=>some ⟨S.ρ,o (x,y),S.enc⟩|none=>none)|none=>none,by
 intro a c q r hq hr;split at hq
 ·rename_i x hx;split at hq
  ·rename_i y hy;cases hq;obtain⟨z,hz,rfl⟩:=Res.U0 hr;rw[S.p.ok _ _ hx,S.q.ok _ _ hy];exact h (x,y) z hz
  ·cases hq
 ·cases hq⟩
def kt{X:Ctx}(l:List (FE X)):Dz:=List.rec (λ_ _ _=> .none) (λe _ K g a c=>bif Nat.beq g e.f then(match e.P a c with|some r=>r|none=>K g a c) else K g a c) l
def ak2{X:Ctx}(l:List (FE X)):XL (kt l).to (call X):=by
 induction l with
 |nil=>exact λ_ _ _ _ h=>by simp[Dz.to,kt,Res.none,Res.val] at h
 |cons e l ih=>
  intro g a c r hr;have hr':(bif Nat.beq g e.f then(match e.P a c with|some r=>r|none=>kt l g a c) else kt l g a c).val=some r:=hr
  by_cases h:g=e.f
  ·subst h;simp only[Nat.beq_refl,bZ] at hr';split at hr'
   ·rename_i q hq;exact e.ok a c q r hq hr'
   ·exact ih _ a c r hr'
  ·rw[lT h] at hr';exact ih g a c r hr'
structure LE(X:Ctx)(f:Nat) where
 n:Nat
 c:Code
 P:St->Option (Ot (Ex×St))
 hn:lid c=n
 ok:∀S q r,P S=some q->q.val=some r->Ig (den X (call X) f c) S=some r
def lt{X:Ctx}{f:Nat}(l:List (LE X f)):Il:=List.rec (λ_ _=> .none) (λe _ L n S=>bif Nat.beq n e.n then(match e.P S with|some r=>r|none=> .none) else L n S) l
def apart(l:List Nat):Bool:=match l with
 |[]=>true
 |x::l=>l.all (λy=> !(Nat.beq x y)) && apart l
def af6{X:Ctx}{f:Nat}:∀(l:List (LE X f)),apart (l.map LE.n)=true->∀e,e∈l->∀S r,(lt l e.n S).val=some r->Ig (den X (call X) f e.c) S=some r
 |[],_,e,h,_,_,_=>by cases h
 |d::l,hd,e,he,S,r,hr=>by
  have hr':(bif Nat.beq e.n d.n then(match d.P S with|some r=>r|none=> .none) else lt l e.n S).val=some r:=hr;simp only[QY,apart,su] at hd;rcases List.mem_cons.1 he with rfl|he
  ·simp only[Nat.beq_refl,bZ] at hr';split at hr'
   ·rename_i q hq;exact e.ok S q r hq hr'
   ·simp[Ot.none,Ot.val] at hr'
  ·have h1:=List.all_eq_true.1 hd.1 e.n (List.mem_map_of_mem he);have h2:e.n≠d.n:=by intro h;rw[h,Nat.beq_refl] at h1;cases h1
   rw[lT h2] at hr';exact af6 l hd.2 e he S r hr'
def ak3{X:Ctx}{f:Nat}{l:List (LE X f)}{cs:List Code}(h:cs=l.map LE.c)(hd:apart (l.map LE.n)=true):ZT X (call X) f (lt l).to cs:=by intro c hc S r hr;rw[h] at hc;obtain⟨e,he,rfl⟩:=List.mem_map.1 hc;rw[e.hn] at hr;exact af6 l hd e he S r hr
def fnS{X:Ctx}{S:fK}{o:S.α->Option S.ρ}(C:∀{R:Type},S.α->(S.ρ->Option R)->Option R)(K:List (FE X))(L:List (LE X S.f))(hn:∀{R:Type} x (k:S.ρ->Option R),C x k=(C x some).bind k)
  (hE:∀{R:Type} x (k:List Row->List Cell->Option R),bodyC X (kt K) (lt L) S.f (S.p.enc x.1) (S.q.enc x.2) k=C x (λr=>k (S.enc r).1 (S.enc r).2):=by intros;kernel_rfl)
  (hL:loops (codeOf X.P S.f)=L.map LE.c:=by kernel_rfl) (hd:apart (L.map LE.n)=true:=by kernel_rfl) (hp:X.MN S.f=none:=by kernel_rfl) (ho:∀x,o x=C x some:=by intros;rfl):S.ok X o:=by
 intro x r h;rw[ho] at h;exact afZ hp (ak2 K) (ak3 hL hd) (by rw[hE,hn]) h
def fK.lim{X:Ctx}{S:fK}{o:Nat->S.α->Option S.ρ}(h:∀n,S.ok X (o n)):S.ok X λx=>Vm.lim λn=>o n x:=by intro x r hr;obtain⟨n,hn⟩:=Jk hr;exact h n x r hn
def fK.zero{X:Ctx}{S:fK}:S.ok X λ_=>none:=λ_ _ h=>by cases h
def fK.yj{X:Ctx}{S:fK}{o:Nat->S.α->Option S.ρ}(h:∀n,S.ok X (o n))(hi:∀a b,S.enc a=S.enc b->a=b){x:S.α}{n:Nat}{r:S.ρ}(hr:o n x=some r):(Vm.lim λn=>o n x)=some r:=by
 refine Vm.yj hr λm y hy=> ?_
 have h1:=h n x r hr;have h2:=h m x y hy;rw[h1] at h2;exact(hi _ _ (Option.some.inj h2)).symm
def fK.MN{X:Ctx}{S:fK}{o:S.α->Option S.ρ}{p:List V->List Cell->Option (List Row×List Cell)}(h:∀x,p (S.p.enc x.1) (S.q.enc x.2)=(o x).map S.enc:=by intros;rfl)(hp:X.MN S.f=some p:=by kernel_rfl):S.ok X o:=by intro x r hr;exact Y2 hp (by rw[h,hr];rfl)
def le{X:Ctx}{f:Nat}(n:Nat)(p:Pt St){σ:Type}(v:p.α->σ)(g:p.α->σ->p.α)(A:p.α->Alt (Ex×St))(C:∀{R:Type} (x:p.α),σ->(σ->Option R)->((A x).T->Option R)->Option R)(K:List (FE X))(L:List (LE X f))
  (hn:∀{R:Type} x s (kn:σ->Option R) (ke:(A x).T->Option R),C x s kn ke=(C x s (λs=>some (Sum.inl s)) (λt=>some (Sum.inr t))).bind λr=>match r with| .inl s=>kn s| .inr t=>ke t)
  (hE:∀{R:Type} x s (k:Ex->St->Option R),Ov X (kt K) (lt L) f (Lj X.P f n) (p.enc (g x s)) k=C x s (λs=>k .normal (p.enc (g x s))) (λt=>(A x).go t λr=>k r.1 r.2):=by intros;kernel_rfl)
  (hx:∀x t,((A x).enc t).1≠.normal:=by first|(intro x t h;cases h;done)|(intro x t;rcases t with t|t<;>first|(intro h;cases h;done)|(rcases t with t|t<;>first|(intro h;cases h;done)|(rcases t with t|t<;>(intro h;cases h)))))
  (hv:∀x,g x (v x)=x:=by first|(intros;rfl)|(rintro(_|_)<;>rfl)|(rintro(_|_|_)<;>rfl)|(rintro(_|_|_|_)<;>rfl))
  (hL:loops (Lj X.P f n)=L.map LE.c:=by kernel_rfl) (hd:apart (L.map LE.n)=true:=by kernel_rfl) (hi:lid (Lj X.P f n)=n:=by kernel_rfl):LE X f:=
 ⟨n,Lj X.P f n,λS=>match p.dec S with|some x=>some ⟨A x,fG (λs=>C x s (λs=>some (Sum.inl s)) (λt=>some (Sum.inr t))) (v x)⟩|none=>none,hi,by
  intro S q r hq hr;split at hq
  ·rename_i x hp;cases hq;obtain⟨t,ht,rfl⟩:=Ot.U0 hr;rw[p.ok _ _ hp];have h:=af0 (X:=X) (f:=f) (c:=Lj X.P f n) (K:=kt K) (L:=lt L) (tm:=λs=>p.enc (g x s)) (tx:=(A x).enc) (ak2 K) (ak3 hL hd) (λs=>by
    rw[hE,hn];congr 1;funext r;cases r
    ·rfl
    ·exact Alt.go_eq _ _ _) (hx x) ht
   rwa [hv] at h
  ·cases hq⟩
def nb:(∀(α β:Type) (c:Bool) (a b:Option α) (f:α->Option β),(bif c then a else b).bind f=bif c then a.bind f else b.bind f)/\(∀(α β γ:Type) (o:Option α) (g:α->Option β) (f:β->Option γ),(o.bind g).bind f=o.bind λx=>(g x).bind f)/\
  (∀(α β:Type) (a:α) (f:α->Option β),(some a).bind f=f a)/\(∀(α β:Type) (f:α->Option β),(none:Option α).bind f=none)/\
  (∀(α β γ:Type) (o:Option α) (n:Option β) (f:α->Option β) (g:β->Option γ),(aew o n f).bind g=aew o (n.bind g) λx=>(f x).bind g)/\
  (∀(α β γ δ:Type) (r:α⊕β) (f:α->Option γ) (g:β->Option γ) (k:γ->Option δ),(qy r f g).bind k=qy r (λx=>(f x).bind k) (λy=>(g y).bind k))/\
  (∀(α β γ:Type) (x:α) (f:α->Option β) (g:β->Option γ),(letE x f).bind g=letE x λy=>(f y).bind g):=
 ⟨λ_ _=>af4,λ_ _ _=>aeu,λ_ _=>aj,λ_ _=>aev,λ_ _ _=>XU,λ_ _ _ _=>XV,λ_ _ _=>XW⟩
section
variable {α β ρ R:Type} {k:ρ->Option R}
def uK{c:Bool}{x y:Option R}{u v:Option ρ}(h1:x=u.bind k)(h2:y=v.bind k):(bif c then x else y)=(bif c then u else v).bind k:=by cases c<;>assumption
def XY{o:Option α}{f:α->Option R}{g:α->Option ρ}(h:∀a,f a=(g a).bind k):o.bind f=(o.bind g).bind k:=by cases o with
 |none=>rfl
 |some a=>exact h a
def XZ{o:Option α}{n:Option R}{m:Option ρ}{f:α->Option R}{g:α->Option ρ}(h1:n=m.bind k)(h:∀a,f a=(g a).bind k):aew o n f=(aew o m g).bind k:=by rw[XU,h1,funext h]
def X3{o:α⊕β}{f:α->Option R}{g:β->Option R}{f':α->Option ρ}{g':β->Option ρ}(h1:∀a,f a=(f' a).bind k)(h2:∀a,g a=(g' a).bind k):qy o f g=(qy o f' g').bind k:=by rw[XV,funext h1,funext h2]
def X4{x:α}{f:α->Option R}{g:α->Option ρ}(h:∀a,f a=(g a).bind k):letE x f=(letE x g).bind k:=by rw[XW,funext h]
end
end
end Go.Vm
namespace Go.Vm
open Go
open Go.IntKind (i64)
def aB{n:Int}(h1: -9223372036854775808<=n)(h2:n<=9223372036854775807):i64.wrap n=n:=IntWalk.i64_in n ⟨h1,h2⟩
def Zc{α β:Type}(f:α->β)(l:List α)(i:Int):idx (l.map f) i=(idx l i).map f:=by unfold idx;cases decide (0<=i)<;>simp
def bT{α:Type}(l:List α)(i:Nat):idx l (i:Int)=l[i]? :=by simp[idx]
def af7{α:Type}{l:List α}{i:Int}(h0:0<=i)(h1:i<l.length):∃x,idx l i=some x/\l[i.toNat]? =some x:=by refine⟨l[i.toNat]'au, ?_,by simp⟩;unfold idx;simp only[zdt h0,bZ];simp
def adp{α:Type}{l:List α}{i:Int}(h:i<0\/(l.length:Int)<=i):idx l i=none:=by
 unfold idx
 by_cases h0:0<=i
 ·simp only[zdt h0,bZ];simp;omega
 ·simp[pX h0]
structure Nd where
 kind:Int
 op:Int
 text:List UInt8
 other:List UInt8
 kids:List Int
 deriving DecidableEq,Inhabited
def encI(l:List Int):List Row:=l.map λk=>[.int .i64 k]
def encS(l:List (List UInt8)):List Row:=l.map λs=>[.str s]
def DC(o:Bool)(n:Nd):Row:=[.int .i64 n.kind,.int .i64 n.op,.str n.text,.str n.other,.sl o 1 (encI n.kids)]
def aH(o:Bool)(l:List Nd):List Row:=l.map (DC o)
structure Tk where
 kind:Int
 text:List UInt8
 at_:Int
 deriving DecidableEq,Inhabited
def acd(n:Tk):Row:=[.int .i64 n.kind,.str n.text,.int .i64 n.at_]
def RS(l:List Tk):List Row:=l.map acd
section
variable (o:Bool) (n:Nd) (l:List Nd) (k:List Int) (i:Int) (t:Tk) (ts:List Tk)
@[simp] theorem dw:(encI k).length=k.length:=by simp[encI]
@[simp] theorem bn:(aH o l).length=l.length:=by simp[aH]
@[simp] theorem ahU:(RS ts).length=ts.length:=by simp[RS]
@[simp] theorem aaA:idx (encI k) i=(idx k i).map λk=>[D.int .i64 k]:=Zc _ _ _
@[simp] theorem X5:idx (aH o l) i=(idx l i).map (DC o):=Zc _ _ _
@[simp] theorem aoN:idx (RS ts) i=(idx ts i).map acd:=Zc _ _ _
@[simp] theorem lM(j:Nat):(encI k)[j]? =(k[j]?).map λk=>[D.int .i64 k]:=by simp[encI]
@[simp] theorem dQ(j:Nat):(aH o l)[j]? =(l[j]?).map (DC o):=by simp[aH]
@[simp] theorem aoO(j:Nat):(RS ts)[j]? =(ts[j]?).map acd:=by simp[RS]
@[simp] theorem Zd:gW .i64 (DC o n) 0=some n.kind:=rfl
@[simp] theorem cN1:gW .i64 (DC o n) 1=some n.op:=rfl
@[simp] theorem cN2:cStr (DC o n) 2=some n.text:=rfl
@[simp] theorem cN3:cStr (DC o n) 3=some n.other:=rfl
@[simp] theorem RU:SE 1 (DC o n) 4=some (encI n.kids):=rfl
@[simp] theorem cT0:gW .i64 (acd t) 0=some t.kind:=rfl
@[simp] theorem cT1:cStr (acd t) 1=some t.text:=rfl
@[simp] theorem cT2:gW .i64 (acd t) 2=some t.at_:=rfl
@[simp] theorem U4:gW .i64 [D.int .i64 i] 0=some i:=rfl
@[simp] theorem ahV:aF (encI k)=encI k:=by
 induction k with
 |nil=>rfl
 |cons x l ih=>simp only[encI,QY,aF] at ih|-;rw[ih];rfl
@[simp] theorem pF:aF (aH o l)=aH false l:=by
 induction l with
 |nil=>rfl
 |cons x l ih=>simp only[aH,QY,aF] at ih|-;rw[ih];simp[DC,sQ,D.fz,ahV]
@[simp] theorem aph:aF (RS ts)=RS ts:=by
 induction ts with
 |nil=>rfl
 |cons x l ih=>simp only[RS,QY,aF] at ih|-;rw[ih];simp[acd,sQ,D.fz]
@[simp] theorem wS:jO (encI k)=true:=by simp only[jO,encI,List.all_map,List.all_eq_true];intro x _;rfl
end
def I64(n:Int):Prop:= -9223372036854775808<=n/\n<=9223372036854775807
structure Fit(n:Nd):Prop where
 kind:I64 n.kind
 op:I64 n.op
 text:n.text.length<=maxLen
 other:n.other.length<=maxLen
 kids:n.kids.length<=maxLen
 kid:∀k,k∈n.kids->I64 k
structure aEa(n:Tk):Prop where
 kind:I64 n.kind
 text:n.text.length<=maxLen
 at_:I64 n.at_
def X6{α ω τ:Type}(f:ω->α->ω⊕τ)(fin:ω->τ):List α->ω->τ
 |[],w=>fin w
 |x::l,w=>match f w x with
  | .inl w'=>X6 f fin l w'
  | .inr t=>t
def U5{σ τ α ω:Type}(b:σ->Option (σ⊕τ))(l:List α)(st:Nat->ω->σ)(f:ω->α->ω⊕τ)(fin:ω->τ)(I:Nat->ω->Prop)
  (hstep:∀i x w,l[i]? =some x->I i w->b (st i w)=some (match f w x with| .inl w'=> .inl (st (i+1) w')| .inr t=> .inr t))
  (hI:∀i x w w',l[i]? =some x->I i w->f w x=.inl w'->I (i+1) w')
  (hend:∀w,I l.length w->b (st l.length w)=some (.inr (fin w))) (w:ω) (h0:I 0 w):fG b (st 0 w)=some (X6 f fin l w):=by
 have key:∀(t:List α) (i:Nat) (w:ω),l.drop i=t->i<=l.length->I i w->fG b (st i w)=some (X6 f fin t w):=by
  intro t;induction t with
  |nil=>
   intro i w hd hi hI';have:i=l.length:=by have:=congrArg List.length hd;simp at this;omega
   subst this;exact dJ (hend w hI')
  |cons x t ih=>
   intro i w hd hi hI';have hx:l[i]? =some x:=by
    have:(l.drop i)[0]? =some x:=by rw[hd];rfl
    simpa using this
   have hlt:i<l.length:=(FK.1 hx).1;have hd':l.drop (i+1)=t:=by rw[<-List.drop_drop,hd];rfl
   have hs:=hstep i x w hx hI';simp only[X6];cases hf:f w x with
   |inl w'=>rw[hf] at hs;rw[iD hs];exact ih (i+1) w' hd' hlt (hI i x w w' hx hI' hf)
   |inr u=>rw[hf] at hs;exact dJ hs
 exact key l 0 w rfl (Nat.zero_le _) h0
end Go.Vm
namespace Go.Vm
open Go
open Go.IntKind (i64)
section
variable {X:Ctx} {base:Nat} {U:Nat->Prop} {w w':World} {f:FuncId} {gargs eu:List Value} {N1 N2:List Nat} {P:Program}
def U6{args:List V}(hG:Given X base U w f args [] gargs eu N1 N2)(hm:∀i,i<args.length->vI X.Bf f i=0):
  eu=[]/\N1=[]/\N2=[]/\bD (impμ []) [] (view w U (· ∈([]:List Nat)++[])) args gargs:=by
 obtain⟨rfl,rfl⟩:=hG.cells;have key:∀(args:List V) (i:Nat) (gs:List Value) (N:List Nat) (hv:View),(∀j,i<=j->j<i+args.length->vI X.Bf f j=0)->F8 X.Bf f (impμ []) (kP 0 []) (aX w) hv i args gs N->N=[]/\bD (impμ []) [] hv args gs:=by
  intro args;induction args with
  |nil=>intro i gs N hv _ h;simp only[F8] at h;exact⟨h.2,by simpa[bD] using h.1⟩
  |cons a args ih=>intro i gs N hv hi h;simp only[F8,hi i (Nat.le_refl _) (by simp)] at h;obtain⟨g,gs',M1,M2,rfl,rfl,⟨rfl,hq⟩,hr⟩:=h;obtain⟨rfl,hs⟩:=ih (i+1) gs' M2 hv (λj h1 h2=>hi j au (by simp only[OL];omega)) hr;exact⟨rfl,by simp only[bD];exact⟨g,gs',rfl,hq,hs⟩⟩
 obtain⟨rfl,hs⟩:=key args 0 gargs N1 _ (λj _ hj=>hm j au) hG.args;exact⟨rfl,rfl,rfl,hs⟩
def ace{μ:Nat->Value}{m:Mem}{h:View}{a b:List UInt8}(q:bD μ m h [.d (.str a),.d (.str b)] gargs):gargs=[.string ⟨⟨a⟩⟩,.string ⟨⟨b⟩⟩]:=by simp only[bD,aC,ro] at q;obtain⟨g,gs,rfl,rfl,g',gs',rfl,rfl,rfl⟩:=q;rfl
def acf{t:TypeId}{x:D}{g:Value}(ht:xZ P t=false)(hpt:OT P t=none)(hx:∀H h,ow H h x g [])(hk:Keep [] w w'):Did P U w w' ([]++[]) [t] [] [] [] [[x]] [g] [] []:=by
 refine⟨hk,by simp,by simp,rfl,⟨rfl,rfl⟩, ?_⟩;simp only[Fj];refine⟨_,_,_,_,[],[],rfl,rfl,rfl,(sU hpt).2 ⟨[g], ?_, ?_,rfl⟩,rfl,rfl,rfl⟩
 ·rw[valOf,if_neg (by rw[ht];simp)]
 ·simp only[dF];exact⟨_,_,[],[],rfl,rfl,hx _ _,rfl⟩
end
end Go.Vm
namespace Go.Vm
open Go
open Go.IntKind (i64)
inductive Tn where
 |mk (kind op:Int) (text other:List UInt8) (kids:List Tn)
mutual
def Tn.size:Tn->Nat
 | .mk _ _ _ _ ks=>sizes ks+1
def sizes:List Tn->Nat
 |[]=>0
 |t::ts=>t.size+sizes ts
end
def ends:List Tn->Nat->List Int
 |[],_=>[]
 |t::ts,b=>((b:Int)+t.size - 1)::ends ts (b+t.size)
mutual
def Tn.flat:Tn->Nat->List Nd
 | .mk k o x y ks,b=>iZ ks b++[⟨k,o,x,y,ends ks b⟩]
def iZ:List Tn->Nat->List Nd
 |[],_=>[]
 |t::ts,b=>t.flat b++iZ ts (b+t.size)
end
mutual
def Tn.row(w:Bool):Tn->Row
 | .mk k o x y ks=>[.int .i64 k,.int .i64 o,.str x,.str y,.sl w 5 (jc w ks)]
def jc(w:Bool):List Tn->List Row
 |[]=>[]
 |t::ts=>t.row w::jc w ts
end
mutual
def Tn.depth:Tn->Int
 | .mk _ _ _ _ ks=>depths 0 ks+1
def depths(a:Int):List Tn->Int
 |[]=>a
 |t::ts=>depths (bif decide (a<t.depth) then t.depth else a) ts
end
def Tn.kids:Tn->List Tn| .mk _ _ _ _ ks=>ks
def Tn.kind:Tn->Int| .mk k _ _ _ _=>k
def Tn.op:Tn->Int| .mk _ o _ _ _=>o
def Tn.text:Tn->List UInt8| .mk _ _ x _ _=>x
def Tn.other:Tn->List UInt8| .mk _ _ _ y _=>y
def Tn.ind{P:Tn->Prop}(h:∀k o x y ks,(∀t,t∈ks->P t)->P (.mk k o x y ks))(t:Tn):P t:=by
 refine Tn.rec (motive_1:=P) (motive_2:=λks=>∀t,t∈ks->P t) ?_ ?_ ?_ t
 ·intro k o x y ks ih;exact h k o x y ks ih
 ·intro t ht;cases ht
 ·intro t ts h1 h2 u hu;rcases List.mem_cons.1 hu with rfl|hu
  ·exact h1
  ·exact h2 u hu
def Tn.size_pos:∀t:Tn,1<=t.size
 | .mk _ _ _ _ ks=>by rw[Tn.size];omega
def Tn.MF(t:Tn):t.size=sizes t.kids+1:=by cases t;rfl
def mF:∀a b:List Tn,sizes (a++b)=sizes a+sizes b
 |[],b=>by simp[sizes]
 |t::a,b=>by rw[WI,sizes,sizes,mF a b];omega
def G8:∀ks:List Tn,ks.length<=sizes ks
 |[]=>Nat.le_refl _
 |t::ts=>by have:=G8 ts;have:=t.size_pos;rw[sizes,OL];omega
def Qz:∀{ks:List Tn} {t:Tn},t∈ks->t.size<=sizes ks
 |u::ts,t,h=>by
  rw[sizes];rcases List.mem_cons.1 h with rfl|h
  ·omega
  ·have:=Qz h;omega
def wU:∀a:List Tn,sizes a.reverse=sizes a
 |[]=>rfl
 |t::a=>by rw[List.reverse_cons,mF,wU a,sizes,sizes,sizes];omega
def jH:∀(ks:List Tn) (b:Nat),(ends ks b).length=ks.length
 |[],_=>rfl
 |t::ts,b=>by rw[ends,OL,jH ts,OL]
def Ll:∀(a c:List Tn) (b:Nat),ends (a++c) b=ends a b++ends c (b+sizes a)
 |[],c,b=>by simp[ends,sizes]
 |t::a,c,b=>by rw[WI,ends,ends,Ll a c,sizes,WI,Nat.add_assoc]
def BQ:∀(a c:List Tn) (b:Nat),iZ (a++c) b=iZ a b++iZ c (b+sizes a)
 |[],c,b=>by simp[iZ,sizes]
 |t::a,c,b=>by rw[WI,iZ,iZ,BQ a c,sizes,BD,Nat.add_assoc]
mutual
def Tn.flat_length:∀(t:Tn) (b:Nat),(t.flat b).length=t.size
 | .mk _ _ _ _ ks,b=>by rw[Tn.flat,Tn.size,ZP,jT ks b];rfl
def jT:∀(ks:List Tn) (b:Nat),(iZ ks b).length=sizes ks
 |[],_=>rfl
 |t::ts,b=>by rw[iZ,sizes,ZP,t.flat_length b,jT ts]
end
def af8{ks:List Tn}{b j:Nat}(h:j<ks.length):(ends ks b)[j]? =some ((b:Int)+sizes (ks.take (j+1)) - 1):=by
 induction ks generalizing b j with
 |nil=>simp at h
 |cons t ts ih=>
  cases j with
  |zero=>simp[ends,sizes]
  |succ j=>simp only[OL,Nat.add_lt_add_iff_right] at h;rw[ends,List.getElem?_cons_succ,ih h,List.take_succ_cons,sizes];congr 1;omega
def Nd.up(d:Int)(n:Nd):Nd:={n with kids:=n.kids.map (· +d)}
def adq:∀(ks:List Tn) (b c:Nat),ends ks c=(ends ks b).map (· +((c:Int) - b))
 |[],_,_=>rfl
 |t::ts,b,c=>by rw[ends,ends,QY,adq ts (b+t.size) (c+t.size)];have e:(((c+t.size:Nat):Int) - ((b+t.size:Nat):Int))=(c:Int) - b:=au;rw[e];congr 1;omega
mutual
def Tn.adr:∀(t:Tn) (b c:Nat),t.flat c=(t.flat b).map (Nd.up ((c:Int) - b))
 | .mk k o x y ks,b,c=>by rw[Tn.flat,Tn.flat,List.map_append,aaB ks b c,adq ks b c];rfl
def aaB:∀(ks:List Tn) (b c:Nat),iZ ks c=(iZ ks b).map (Nd.up ((c:Int) - b))
 |[],_,_=>rfl
 |t::ts,b,c=>by rw[iZ,iZ,List.map_append,t.adr b c,aaB ts (b+t.size) (c+t.size)];have e:(((c+t.size:Nat):Int) - ((b+t.size:Nat):Int))=(c:Int) - b:=au;rw[e]
end
def Lies(l:List Nd)(b:Nat)(t:Tn):Prop:=∃pre post,l=pre++(t.flat b++post)/\pre.length=b
def Lies.whole(t:Tn):Lies (t.flat 0) 0 t:=⟨[],[],by simp,rfl⟩
def Lies.root{l:List Nd}{b:Nat}{k o:Int}{x y:List UInt8}{ks:List Tn}(h:Lies l b (.mk k o x y ks)):l[b+sizes ks]? =some ⟨k,o,x,y,ends ks b⟩:=by obtain⟨pre,post,rfl,rfl⟩:=h;rw[Tn.flat,List.getElem?_append_right au,BD,List.getElem?_append_right (by rw[jT];omega),jT];simp
def Lies.kid{l:List Nd}{b:Nat}{k o:Int}{x y:List UInt8}{a c:List Tn}{t:Tn}(h:Lies l b (.mk k o x y (a++t::c))):Lies l (b+sizes a) t:=by obtain⟨pre,post,rfl,rfl⟩:=h;refine⟨pre++iZ a pre.length,iZ c (pre.length+sizes a+t.size)++[⟨k,o,x,y,ends (a++t::c) pre.length⟩]++post, ?_,by rw[ZP,jT]⟩;rw[Tn.flat,BQ,iZ];simp only[BD]
def Lies.lt{l:List Nd}{b:Nat}{t:Tn}(h:Lies l b t):b+t.size<=l.length:=by obtain⟨pre,post,rfl,rfl⟩:=h;simp only[ZP,t.flat_length];omega
def Lies.part{l:List Nd}{b:Nat}{t:Tn}(h:Lies l b t):(l.drop b).take t.size=t.flat b:=by obtain⟨pre,post,rfl,rfl⟩:=h;rw[List.drop_left,<-t.flat_length pre.length,List.take_left]
def dN(st:List Int):List Int->Int->Option Int
 |[],at_=>some at_
 |k::ks,at_=>if at_<0\/k≠at_ then none else dN st ks ((st[k.toNat]?.getD 0) - 1)
def gu:List Int->List (List Int)->Option (List Int)
 |st,[]=>some st
 |st,n::l=>match dN st n.reverse ((st.length:Int) - 1) with
  |none=>none
  |some at_=>gu (st++[at_+1]) l
def jY(l:List (List Int)):Option (List Int):=if 1<=l.length/\l.length<=400 then gu [] l else none
def ks(l:List Nd):List (List Int):=l.map (·.kids)
def yu(l:List Nd):Bool:=match jY (ks l) with
 |none=>false
 |some st=>st[l.length - 1]?.getD 0==0
def GI(l:List Nd):(ks l).length=l.length:=by simp[ks]
def G9(st:List Int):List Tn->Prop
 |[]=>True
 |t::ts=>st[sizes (t::ts) - 1]? =some (sizes ts:Int)/\G9 st ts
def X7{st u:List Int}:∀{ts:List Tn},sizes ts<=st.length->(G9 (st++u) ts↔G9 st ts)
 |[],_=>Iff.rfl
 |t::ts,h=>by
  have hp:=t.size_pos;have h1:sizes ts<=st.length:=by rw[sizes] at h;omega
  rw[G9,G9,X7 h1,List.getElem?_append_left (by rw[sizes] at h|-;omega)]
def U7{st:List Int}:∀{ks:List Int} {ts:List Tn} {a:Int},G9 st ts->dN st ks ((sizes ts:Int) - 1)=some a->
  ∃u v,ts=u++v/\ks.reverse=ends u.reverse (sizes v)/\a=(sizes v:Int) - 1
 |[],ts,a,_,h=>by rw[dN] at h;cases h;exact⟨[],ts,rfl,rfl,rfl⟩
 |k::ks,[],a,_,h=>by rw[dN,if_pos (.inl (by simp[sizes]))] at h;cases h
 |k::ks,t::ts,a,hr,h=>by
  have hp:=t.size_pos;have hs:sizes (t::ts)=t.size+sizes ts:=by rw[sizes]
  rw[dN] at h;split at h
  ·cases h
  ·rename_i hc;have hk:k=(sizes (t::ts):Int) - 1:=au;have hk':k.toNat=sizes (t::ts) - 1:=au;rw[hk',hr.1,Option.getD_some] at h;obtain⟨u,v,rfl,h1,h2⟩:=U7 hr.2 h;refine⟨t::u,v,rfl, ?_,h2⟩;rw[List.reverse_cons,List.reverse_cons,h1,Ll,wU,hk,hs,mF,ends,ends];congr 2;omega
def U8{st:List Int}:∀{u v:List Tn},G9 st (u++v)->G9 st v
 |[],_,h=>h
 |_::u,_,h=>U8 (u:=u) h.2
def PN:∀(l pre:List Nd) (st r:List Int) (ts:List Tn),pre=iZ ts.reverse 0->st.length=pre.length->G9 st ts->gu st (ks l)=some r->
  ∃us,pre++l=iZ us.reverse 0/\r.length=(pre++l).length/\G9 r us
 |[],pre,st,r,ts,h1,h2,h3,h=>by rw[show ks []=[] from rfl,gu] at h;cases h;exact⟨ts,by simpa using h1,by simpa using h2,h3⟩
 |n::l,pre,st,r,ts,h1,h2,h3,h=>by
  have hk:ks (n::l)=n.kids::ks l:=rfl;have hpl:pre.length=sizes ts:=by rw[h1,jT,wU]
  rw[hk,gu] at h;split at h
  ·cases h
  ·rename_i a ha;rw[h2,hpl] at ha;obtain⟨u,v,rfl,hu,rfl⟩:=U7 h3 ha;rw[List.reverse_reverse] at hu;have hz:sizes (Tn.mk n.kind n.op n.text n.other u.reverse::v)=sizes u+1+sizes v:=by rw[sizes,Tn.size,wU]
   have:=PN l (pre++[n]) (st++[(sizes v:Int) - 1+1]) r (Tn.mk n.kind n.op n.text n.other u.reverse::v) (by
    rw[h1,List.reverse_append,List.reverse_cons,BQ,BQ,iZ,iZ,Tn.flat,List.append_nil,BD,wU,Nat.zero_add,<-hu]) (by simp[h2]) (by
    refine⟨?_, ?_⟩
    ·rw[hz,List.getElem?_append_right (by rw[h2,hpl,mF];omega),h2,hpl,mF];rw[show sizes u+1+sizes v - 1 - (sizes u+sizes v)=0 by omega];simp
    ·rw[X7 (by rw[h2,hpl,mF];omega)];exact U8 h3) h
   obtain⟨us,k1,k2,k3⟩:=this;exact⟨us,by simpa using k1,by simpa using k2,k3⟩
def U9{l:List Nd}(h:yu l=true):∃t:Tn,l=t.flat 0/\t.size<=400:=by
 unfold yu at h;cases hs:jY (ks l) with
 |none=>rw[hs] at h;cases h
 |some r=>
  rw[hs] at h;unfold jY at hs;split at hs
  ·rename_i hq;rw[GI] at hq;obtain⟨us,k1,k2,k3⟩:=PN l [] [] r [] rfl rfl trivial hs;simp only[List.nil_append] at k1 k2;have hl:l.length=sizes us:=by rw[k1,jT,wU]
   cases us with
   |nil=>rw[sizes] at hl;omega
   |cons t ts=>
    rw[G9,<-hl] at k3;simp only[k3.1,Option.getD_some,beq_iff_eq] at h;have:ts=[]:=by
     cases ts with
     |nil=>rfl
     |cons u us=>have:=u.size_pos;rw[sizes] at h;omega
    subst this;refine⟨t,by simpa[iZ] using k1, ?_⟩;rw[sizes,sizes] at hl;omega
  ·cases hs
def MG(w:Bool):∀ts:List Tn,jc w ts=ts.map (Tn.row w)
 |[]=>rfl
 |t::ts=>by rw[jc,MG w ts];rfl
mutual
def af9(w:Bool):∀t:Tn,sQ (t.row w)=t.row false
 | .mk k o x y ts=>by have:=PO w ts;simp only[Tn.row,sQ,D.fz,this]
def PO(w:Bool):∀ts:List Tn,aF (jc w ts)=jc false ts
 |[]=>rfl
 |t::ts=>by rw[jc,aF,af9 w t,PO w ts,jc]
end
end Go.Vm
