/-
  FnExactSameProgramCardSaid: the statement, proved for all arguments.
-/
import Derived.Test.YtoaeipkhadpbiaaGreatDoorRows
import Derived.Test.YtoaeipkhadpbiaaGreatDoorCards
import Derived.Test.YtoaeipkhadpbiaaGreatDoorTie
import Derived.Test.YtoaeipkhadpbiaaGreatDoorPOpen
import Derived.Test.YtoaeipkhadpbiaaGreatDoorVm4
import Derived.SevenTiedAt
import Derived.OpenVars
set_option linter.defProp false
namespace Go.Proofs.YtoaeipkhadpbiaaGreatDoor
set_option linter.unusedVariables false
set_option linter.unusedSimpArgs false
open Go Go.Vm Go.ChangeShapes Go.WideShapes Go.ChangeAt Go.RowKit
open Go.ChangeMaps (open_string shut_string)
theorem ais(os:Os)(args:Array Value):laidMetH Tryz.prog Rows.fnExactSameProgramRow.laid ((laidWorld Tryz.prog [(1,Rows.laid_loop_example_g01543_impl_keywords),(2,Rows.laid_loop_example_g01543_impl_signs),(0,Rows.laid_loop_example_g01543_impl_builtins)] os).forCall (λ_ _=>0) ⟨#[],args,[]⟩).memory:=
 laidMetH_of_parts3 (fuel:=8) (laidMet_of_run' 8 (by kernel_rfl) (by kernel_rfl)) (by kernel_rfl) (by kernel_rfl)
set_option maxRecDepth 100000 in
theorem aeT(os:Os)(started:os.Started)(H:Type)(enc:TypeId×Value->H):
  ReturnsInHanded {} Tryz.checked os 5 .any (λw args=>(Rows.fnExactSameProgramSpec.pre enc Tryz.prog Tryz.f5 Rows.fnExactSameProgramRow.domain false w args/\laidMetH Tryz.prog Rows.fnExactSameProgramRow.laid w)/\sizedMet enc Tryz.prog Tryz.f5 (OpenSpec.ofChange Rows.fnExactSameProgramSpec) false w args) (Rows.fnExactSameProgramSpec.post enc Tryz.prog Tryz.f5 false true false false):=by
 refine ajH (C:=Tryz.checked) (X:=λw _=>laidMetH Tryz.prog Rows.fnExactSameProgramRow.laid w) (λ_ _ _ hh h=>h.of_heap hh) own started (by kernel_rfl) Tryz.func5
  (ChangeSpec.witness_shaped (enc:=enc) (C:=Tryz.checked) (os:=os) (X:=λw _=>laidMetH Tryz.prog Rows.fnExactSameProgramRow.laid w) false (laidWorld Tryz.prog [(1,Rows.laid_loop_example_g01543_impl_keywords),(2,Rows.laid_loop_example_g01543_impl_signs),(0,Rows.laid_loop_example_g01543_impl_builtins)] os) #[.string ByteArray.empty,.string ByteArray.empty] 8 rfl (World.shaped_of_RefB (by kernel_rfl) (by kernel_rfl)) (by kernel_rfl) (by kernel_rfl) (by kernel_rfl) (ais os _)) ?_
 intro W base args ds gs before hval0 hW hL hSh;have hval:∀(j:Nat) t v,Tryz.f5.params[j]? =some t->args[j]? =some v->Value.okWide Tryz.prog W .any base t v:=hval0;have hW':=hW;obtain⟨p,q,hA0,hV,rfl,hfz,hnd⟩:=hW;have hA:DataW.TrodAll enc Tryz.prog W 0 (λ_=>true) true Tryz.f5.params.toList args.toList ds p:=hA0;rw[Tryz.params5] at hA hval;obtain⟨v0,vs0,d0,ds0,p0,q0,hargs,rfl,rfl,h0,r0⟩:=trodAll_cons hA;obtain⟨v1,vs1,d1,ds1,p1,q1,rfl,rfl,rfl,h1,r1⟩:=trodAll_cons r0;obtain⟨rfl,rfl,rfl⟩:=trodAll_nil r1;obtain rfl:args=#[v0,v1]:=by cases args;simp_all
 cases gs with
 |nil=>exact hV.elim
 |cons g0 gs=>
 cases gs with
 |nil=>obtain⟨_,_,_,_,_,_,_,_,_,_,hV,_⟩:=hV;exact hV.elim
 |cons g1 gs=>
 cases gs with
 |nil=>obtain⟨_,_,_,_,_,_,_,_,_,_,hV,_⟩:=hV;obtain⟨_,_,_,_,_,_,_,_,_,_,hV,_⟩:=hV;exact hV.elim
 |cons g2 gs=>
 cases gs with
 |cons _ _=>obtain⟨_,_,_,_,_,_,_,_,_,_,hV,_⟩:=hV;obtain⟨_,_,_,_,_,_,_,_,_,_,hV,_⟩:=hV;obtain⟨_,_,_,_,_,_,_,_,_,_,hV,_⟩:=hV;exact hV.elim
 |nil=>
 have k0:=h0;have k1:=h1;have lt0:∀x∈p0,x.block<W.heap.size:=by obtain⟨m,hm⟩:=k0;exact DataW.trod_lt m _ _ _ hm
 have lt1:∀x∈p1,x.block<W.heap.size:=by obtain⟨m,hm⟩:=k1;exact DataW.trod_lt m _ _ _ hm
 have c0:v0.cells.toList=[v0]:=by obtain⟨_,rfl⟩:=okWide_string Tryz.underlying9 (hval 0 9 v0 rfl rfl);rfl
 have c1:v1.cells.toList=[v1]:=by obtain⟨_,rfl⟩:=okWide_string Tryz.underlying9 (hval 1 9 v1 rfl rfl);rfl
 obtain⟨n0,x0,t0,s0⟩:=atC (μ:=impμ []) (m:=[]) h0 (λn=>by kernel_rfl) c0;obtain⟨n1,x1,t1,s1⟩:=atC (μ:=impμ []) (m:=[]) h1 (λn=>by kernel_rfl) c1;obtain⟨l0,e0,hl0⟩:=open_str' (n:=n0+7) t0;obtain⟨l1,e1,hl1⟩:=open_str' (n:=n1+7) t1;cases e0;cases e1;clear hA0 hval0;refine(avg aHo Tryz.func5 rfl rfl (by kernel_rfl) (by kernel_rfl) (aA3 hL hSh) (args:=[.d (.str l0),.d (.str l1)]) (gargs:=[v0,v1]) (by simp only[dX];exact⟨_,_,rfl,s0,_,_,rfl,s1,rfl⟩)
  (C.oP ((l0,l1,()),()) _ (aiq l0 l1 hl0 hl1))).mono λe W' ⟨he,bel⟩=> ?_
 subst he;exact⟨_,rfl,_,_,_,[],_,_,hW',trodAll_mk1 (shut_bool Tryz.underlying4 _),(trodAll_cons_mk (Below.trod laidOut (by kernel_rfl) (of_decide_eq_true (by kernel_rfl)) k0 bel lt0) (trodAll_cons_mk (Below.trod laidOut (by kernel_rfl) (of_decide_eq_true (by kernel_rfl)) k1 bel lt1) trodAll_mk0)),Below.trodVars laidOut bel (by kernel_rfl) hV,bel.frame _,λh=>by cases h⟩
theorem aiu:Rows.FnExactSameProgramSaid:=
 OpenClaim.holds_of_wide 5 Tryz.f5 rfl rfl rfl rfl rfl rfl rfl ⟨rfl,rfl,rfl,rfl,rfl⟩ rfl rfl rfl rfl rfl (by kernel_rfl) Tryz.func5 (by kernel_rfl)
  (of_decide_eq_true (by kernel_rfl)) (by unfold Func.isWrapper;first|(rw[if_pos (by decide+kernel)];kernel_rfl)|(rw[if_neg (by decide+kernel)];exact⟨rfl,rfl⟩))
  (λos started H enc _=>aeT os started H enc)
theorem SameProgram_holds:Rows.FnExactSameProgramCardSaid:=
 Claim7.holds_tied_plain_at .later [] [.widerDeep, .data, .widerDeep] true (true, "0515006d4cfd493926062aae67974e15ad067c34fb1e8b6a68684155c7f50e72") false
  aiu (λ_ h=>by cases h) (by kernel_rfl) (λ_ h=>by cases h) fnExactSameProgram_row_tie rfl ⟨rfl,rfl⟩ (by kernel_rfl) rfl
  (λf fn hf hfn=>by
   obtain rfl : f = 5 := Option.some.inj ((show Tryz.prog.funcNamed "loop.example/g01543/laws.FnExactSameProgram" = some 5 by kernel_rfl).symm.trans hf) |>.symm
   obtain rfl:fn=Tryz.f5:=(Option.some.inj (Tryz.func5.symm.trans hfn)).symm;exact⟨by kernel_rfl,λj t ht=>by
    rw[Tryz.params5] at ht;have ht2:t∈[9,9]:=by have:=Array.mem_of_getElem? ht;simpa using this
    have key:∀t∈[9,9],Tryz.prog.wantsStandIn t=false:=by intro t ht;simp only[List.mem_cons,List.not_mem_nil,or_false] at ht;rcases ht with rfl|rfl<;>kernel_rfl
    exact key t ht2⟩)
  (by kernel_rfl)
end Go.Proofs.YtoaeipkhadpbiaaGreatDoor
