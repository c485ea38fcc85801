/-
  FnDerivedCardSaid: the statement, proved for all arguments.
-/
import Derived.Test.YthmchnpcplgciaaGreatDoorRows
import Derived.Test.YthmchnpcplgciaaGreatDoorCards
import Derived.Test.YthmchnpcplgciaaGreatDoorTie
import Derived.Test.YthmchnpcplgciaaGreatDoorPOpen
import Derived.SevenTiedAt
import Derived.OpenVars
set_option linter.defProp false
set_option linter.unusedVariables false
set_option linter.unusedSimpArgs false
namespace Go.Proofs.YthmchnpcplgciaaGreatDoor
open Go Go.Vm Go.ChangeShapes Go.WideShapes Go.ChangeAt Go.RowKit
open Go.ChangeMaps (open_string shut_string)
theorem aqo(os:Os)(args:Array Value):laidMetH Tryz.prog Rows.fnDerivedRow.laid ((laidWorld Tryz.prog [(1,Rows.laid_loop_example_g01543_impl_keywords),(2,Rows.laid_loop_example_g01543_impl_signs),(0,Rows.laid_loop_example_g01543_impl_builtins)] os).forCall (λ_ _=>0) ⟨#[],args,[]⟩).memory:=
 laidMetH_of_parts3 (fuel:=8) (laidMet_of_run' 8 (by kernel_rfl) (by kernel_rfl)) (by kernel_rfl) (by kernel_rfl)
set_option maxRecDepth 100000 in
theorem aja(os:Os)(started:os.Started)(H:Type)(enc:TypeId×Value->H):
  ReturnsInHanded {} Tryz.checked os 3 .any (λw args=>(Rows.fnDerivedSpec.pre enc Tryz.prog Tryz.f3 Rows.fnDerivedRow.domain false w args/\laidMetH Tryz.prog Rows.fnDerivedRow.laid w)/\sizedMet enc Tryz.prog Tryz.f3 (OpenSpec.ofChange Rows.fnDerivedSpec) false w args) (Rows.fnDerivedSpec.post enc Tryz.prog Tryz.f3 false true false false):=by
 refine ahc (C:=Tryz.checked) (X:=λw _=>laidMetH Tryz.prog Rows.fnDerivedRow.laid w) (λ_ _ _ hh h=>h.of_heap hh) own started (by kernel_rfl) Tryz.func3
  (ChangeSpec.witness_shaped (enc:=enc) (C:=Tryz.checked) (os:=os) (X:=λw _=>laidMetH Tryz.prog Rows.fnDerivedRow.laid w) false (laidWorld Tryz.prog [(1,Rows.laid_loop_example_g01543_impl_keywords),(2,Rows.laid_loop_example_g01543_impl_signs),(0,Rows.laid_loop_example_g01543_impl_builtins)] os) #[.slice none 0 0] 8 rfl (World.shaped_of_RefB (by kernel_rfl) (by kernel_rfl)) (by kernel_rfl) (by kernel_rfl) (by kernel_rfl) (aqo os _)) ?_
 intro W base args ds gs before hval0 hW hL hSh;have hval:∀(j:Nat) t v,Tryz.f3.params[j]? =some t->args[j]? =some v->Value.okWide Tryz.prog W .any base t v:=hval0;have hW':=hW;obtain⟨p,q,hA0,hV,rfl,hfz,hnd⟩:=hW;have hA:DataW.TrodAll enc Tryz.prog W 0 (λ_=>true) true Tryz.f3.params.toList args.toList ds p:=hA0;rw[Tryz.params3] at hA hval;obtain⟨v0,vs0,d0,ds0,p0,q0,hargs,rfl,rfl,h0,r0⟩:=trodAll_cons hA;obtain⟨rfl,rfl,rfl⟩:=trodAll_nil r0;obtain rfl:args=#[v0]:=by cases args;simp_all
 cases gs with
 |nil=>exact hV.elim
 |cons g0 gs=>
 cases gs with
 |nil=>obtain⟨_,_,_,_,_,_,_,_,_,_,hV,_⟩:=hV;exact hV.elim
 |cons g1 gs=>
 cases gs with
 |nil=>obtain⟨_,_,_,_,_,_,_,_,_,_,hV,_⟩:=hV;obtain⟨_,_,_,_,_,_,_,_,_,_,hV,_⟩:=hV;exact hV.elim
 |cons g2 gs=>
 cases gs with
 |cons _ _=>obtain⟨_,_,_,_,_,_,_,_,_,_,hV,_⟩:=hV;obtain⟨_,_,_,_,_,_,_,_,_,_,hV,_⟩:=hV;obtain⟨_,_,_,_,_,_,_,_,_,_,hV,_⟩:=hV;exact hV.elim
 |nil=>
 have k0:=h0;have lt0:∀x∈p0,x.block<W.heap.size:=by obtain⟨m,hm⟩:=k0;exact DataW.trod_lt m _ _ _ hm
 have c0:v0.cells.toList=[v0]:=by obtain⟨_,_,_,rfl⟩:=okWide_slice Tryz.underlying22 (hval 0 22 v0 rfl rfl);rfl
 obtain⟨n0,x0,t0,s0⟩:=azy (μ:=impμ []) (m:=[]) h0 (λn=>by kernel_rfl) c0;obtain⟨l0,e0,hl0⟩:=arU (n:=n0+6) t0;cases e0;clear hA0 hval0;refine(atM aHD Tryz.func3 rfl rfl (by kernel_rfl) (by kernel_rfl) (by kernel_rfl) (au5 hL hSh) (args:=[.d (.sl false 1 (List.map byteRow l0))]) (gargs:=[v0]) (by simp only[dh];exact⟨_,_,rfl,s0,rfl⟩)
  (C.zY (((List.map byteRow l0),()),()) _ (aqn l0))).mono λe W' ⟨he,bel⟩=> ?_
 subst he;exact⟨_,rfl,_,_,_,[],_,_,hW',trodAll_mk1 (shut_bool Tryz.underlying4 _),(trodAll_cons_mk (Below.trod laidOut (by kernel_rfl) (of_decide_eq_true (by kernel_rfl)) k0 bel lt0) trodAll_mk0),Below.trodVars laidOut bel (by kernel_rfl) hV,bel.frame _,λh=>by cases h⟩
theorem aqp:Rows.FnDerivedSaid:=
 OpenClaim.holds_of_wide 3 Tryz.f3 rfl rfl rfl rfl rfl rfl rfl ⟨rfl,rfl,rfl,rfl,rfl⟩ rfl rfl rfl rfl rfl (by kernel_rfl) Tryz.func3 (by kernel_rfl)
  (of_decide_eq_true (by kernel_rfl)) (by unfold Func.isWrapper;first|(rw[if_pos (by decide+kernel)];kernel_rfl)|(rw[if_neg (by decide+kernel)];exact⟨rfl,rfl⟩))
  (λos started H enc _=>aja os started H enc)
theorem Derived_holds:Rows.FnDerivedCardSaid:=
 Claim7.holds_tied_plain_at .later [] [.widerDeep, .data, .widerDeep] true (true, "9b0bec55217c5bd16671b01496a0713f4efa50fdb53451cbc05531e7b72caee7") false
  aqp (λ_ h=>by cases h) (by kernel_rfl) (λ_ h=>by cases h) fnDerived_row_tie rfl ⟨rfl,rfl⟩ (by kernel_rfl) rfl
  (λf fn hf hfn=>by
   obtain rfl : f = 3 := Option.some.inj ((show Tryz.prog.funcNamed "loop.example/g01543/laws.FnDerived" = some 3 by kernel_rfl).symm.trans hf) |>.symm
   obtain rfl:fn=Tryz.f3:=(Option.some.inj (Tryz.func3.symm.trans hfn)).symm;exact⟨by kernel_rfl,λj t ht=>by
    rw[Tryz.params3] at ht;have ht2:t∈[22]:=by have:=Array.mem_of_getElem? ht;simpa using this
    have key:∀t∈[22],Tryz.prog.wantsStandIn t=false:=by intro t ht;simp only[List.mem_cons,List.not_mem_nil,or_false] at ht;rcases ht with rfl<;>kernel_rfl
    exact key t ht2⟩)
  (by kernel_rfl)
end Go.Proofs.YthmchnpcplgciaaGreatDoor
