/-
  FnExactParseCardSaid: the statement, proved for all arguments.
-/
import Derived.Test.YtoaeipkhadpbiaaGreatDoorRows
import Derived.Test.YtoaeipkhadpbiaaGreatDoorCards
import Derived.Test.YtoaeipkhadpbiaaGreatDoorTie
import Derived.Test.YtoaeipkhadpbiaaGreatDoorPOpen
import Derived.Test.YtoaeipkhadpbiaaGreatDoorVm4
import Derived.SevenTiedAt
import Derived.OpenVars
set_option linter.defProp false
namespace Go.Proofs.YtoaeipkhadpbiaaGreatDoor
set_option linter.unusedVariables false
set_option linter.unusedSimpArgs false
open Go Go.Vm Go.ChangeShapes Go.WideShapes Go.ChangeAt Go.RowKit
open Go.ChangeMaps (open_string shut_string)
theorem auU(os:Os)(args:Array Value):laidMetH Tryz.prog Rows.fnExactParseRow.laid ((laidWorld Tryz.prog [(1,Rows.laid_loop_example_g01543_impl_keywords),(2,Rows.laid_loop_example_g01543_impl_signs),(0,Rows.laid_loop_example_g01543_impl_builtins)] os).forCall (λ_ _=>0) ⟨#[],args,[]⟩).memory:=
 laidMetH_of_parts3 (fuel:=8) (laidMet_of_run' 8 (by kernel_rfl) (by kernel_rfl)) (by kernel_rfl) (by kernel_rfl)
set_option maxRecDepth 100000 in
theorem amN(os:Os)(started:os.Started)(H:Type)(enc:TypeId×Value->H):
  ReturnsInHanded {} Tryz.checked os 4 .any (λw args=>(Rows.fnExactParseSpec.pre enc Tryz.prog Tryz.f4 Rows.fnExactParseRow.domain false w args/\laidMetH Tryz.prog Rows.fnExactParseRow.laid w)/\sizedMet enc Tryz.prog Tryz.f4 (OpenSpec.ofChange Rows.fnExactParseSpec) false w args) (Rows.fnExactParseSpec.post enc Tryz.prog Tryz.f4 false true false false):=by
 refine ahX (C:=Tryz.checked) (X:=λw _=>laidMetH Tryz.prog Rows.fnExactParseRow.laid w) (λ_ _ _ hh h=>h.of_heap hh) own started (by kernel_rfl) Tryz.func4
  (ChangeSpec.witness_shaped (enc:=enc) (C:=Tryz.checked) (os:=os) (X:=λw _=>laidMetH Tryz.prog Rows.fnExactParseRow.laid w) false (laidWorld Tryz.prog [(1,Rows.laid_loop_example_g01543_impl_keywords),(2,Rows.laid_loop_example_g01543_impl_signs),(0,Rows.laid_loop_example_g01543_impl_builtins)] os) #[.string ByteArray.empty] 8 rfl (World.shaped_of_RefB (by kernel_rfl) (by kernel_rfl)) (by kernel_rfl) (by kernel_rfl) (by kernel_rfl) (auU os _)) ?_
 intro W base args ds gs before hval0 hW hL hSh;have hval:∀(j:Nat) t v,Tryz.f4.params[j]? =some t->args[j]? =some v->Value.okWide Tryz.prog W .any base t v:=hval0;have hW':=hW;obtain⟨p,q,hA0,hV,rfl,hfz,hnd⟩:=hW;have hA:DataW.TrodAll enc Tryz.prog W 0 (λ_=>true) true Tryz.f4.params.toList args.toList ds p:=hA0;rw[Tryz.params4] at hA hval;obtain⟨v0,vs0,d0,ds0,p0,q0,hargs,rfl,rfl,h0,r0⟩:=trodAll_cons hA;obtain⟨rfl,rfl,rfl⟩:=trodAll_nil r0;obtain rfl:args=#[v0]:=by cases args;simp_all
 cases gs with
 |nil=>exact hV.elim
 |cons g0 gs=>
 cases gs with
 |nil=>obtain⟨_,_,_,_,_,_,_,_,_,_,hV,_⟩:=hV;exact hV.elim
 |cons g1 gs=>
 cases gs with
 |nil=>obtain⟨_,_,_,_,_,_,_,_,_,_,hV,_⟩:=hV;obtain⟨_,_,_,_,_,_,_,_,_,_,hV,_⟩:=hV;exact hV.elim
 |cons g2 gs=>
 cases gs with
 |cons _ _=>obtain⟨_,_,_,_,_,_,_,_,_,_,hV,_⟩:=hV;obtain⟨_,_,_,_,_,_,_,_,_,_,hV,_⟩:=hV;obtain⟨_,_,_,_,_,_,_,_,_,_,hV,_⟩:=hV;exact hV.elim
 |nil=>
 have k0:=h0;have lt0:∀x∈p0,x.block<W.heap.size:=by obtain⟨m,hm⟩:=k0;exact DataW.trod_lt m _ _ _ hm
 have c0:v0.cells.toList=[v0]:=by obtain⟨_,rfl⟩:=okWide_string Tryz.underlying9 (hval 0 9 v0 rfl rfl);rfl
 obtain⟨n0,x0,t0,s0⟩:=azx (μ:=impμ []) (m:=[]) h0 (λn=>by kernel_rfl) c0;obtain⟨l0,e0,hl0⟩:=open_str' (n:=n0+7) t0;cases e0;clear hA0 hval0;refine(atl aEp Tryz.func4 rfl rfl (by kernel_rfl) (by kernel_rfl) (ay2 hL hSh) (asF λ_=>rfl) (args:=[.d (.str l0)]) (gargs:=[v0]) (by simp only[dL];exact⟨_,_,rfl,s0,rfl⟩)
  (C.vY ((l0,()),()) _ (auT l0 hl0))).mono λe W' ⟨he,bel⟩=> ?_
 subst he;exact⟨_,rfl,_,_,_,[],_,_,hW',trodAll_mk1 (shut_bool Tryz.underlying4 _),(trodAll_cons_mk (Below.trod laidOut (by kernel_rfl) (of_decide_eq_true (by kernel_rfl)) k0 bel lt0) trodAll_mk0),Below.trodVars laidOut bel (by kernel_rfl) hV,bel.frame _,λh=>by cases h⟩
theorem auV:Rows.FnExactParseSaid:=
 OpenClaim.holds_of_wide 4 Tryz.f4 rfl rfl rfl rfl rfl rfl rfl ⟨rfl,rfl,rfl,rfl,rfl⟩ rfl rfl rfl rfl rfl (by kernel_rfl) Tryz.func4 (by kernel_rfl)
  (of_decide_eq_true (by kernel_rfl)) (by unfold Func.isWrapper;first|(rw[if_pos (by decide+kernel)];kernel_rfl)|(rw[if_neg (by decide+kernel)];exact⟨rfl,rfl⟩))
  (λos started H enc _=>amN os started H enc)
theorem Parse_holds:Rows.FnExactParseCardSaid:=
 Claim7.holds_tied_plain_at .later [] [.widerDeep, .data, .widerDeep] true (true, "0515006d4cfd493926062aae67974e15ad067c34fb1e8b6a68684155c7f50e72") false
  auV (λ_ h=>by cases h) (by kernel_rfl) (λ_ h=>by cases h) fnExactParse_row_tie rfl ⟨rfl,rfl⟩ (by kernel_rfl) rfl
  (λf fn hf hfn=>by
   obtain rfl : f = 4 := Option.some.inj ((show Tryz.prog.funcNamed "loop.example/g01543/laws.FnExactParse" = some 4 by kernel_rfl).symm.trans hf) |>.symm
   obtain rfl:fn=Tryz.f4:=(Option.some.inj (Tryz.func4.symm.trans hfn)).symm;exact⟨by kernel_rfl,λj t ht=>by
    rw[Tryz.params4] at ht;have ht2:t∈[9]:=by have:=Array.mem_of_getElem? ht;simpa using this
    have key:∀t∈[9],Tryz.prog.wantsStandIn t=false:=by intro t ht;simp only[List.mem_cons,List.not_mem_nil,or_false] at ht;rcases ht with rfl<;>kernel_rfl
    exact key t ht2⟩)
  (by kernel_rfl)
end Go.Proofs.YtoaeipkhadpbiaaGreatDoor
