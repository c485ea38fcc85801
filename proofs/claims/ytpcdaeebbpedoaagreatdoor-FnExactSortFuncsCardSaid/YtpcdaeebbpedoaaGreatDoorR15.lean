/-
  FnExactSortFuncsCardSaid: the statement, proved for all arguments.
-/
import Derived.Test.YtpcdaeebbpedoaaGreatDoorRows
import Derived.Test.YtpcdaeebbpedoaaGreatDoorCards
import Derived.Test.YtpcdaeebbpedoaaGreatDoorTie
import Derived.Test.YtpcdaeebbpedoaaGreatDoorYSortL
import Derived.Test.YtpcdaeebbpedoaaGreatDoorPOpen
import Derived.Test.YtpcdaeebbpedoaaGreatDoorVm4
import Derived.SevenTiedAt
import Derived.OpenVars
namespace Go.Proofs.YtpcdaeebbpedoaaGreatDoor
set_option linter.unusedVariables false
set_option linter.unusedSimpArgs false
open Go Go.Vm Go.ChangeShapes Go.WideShapes Go.ChangeAt Go.RowKit
open Go.ChangeMaps (open_string shut_string)
theorem SortFuncs_met (os : Os) (args : Array Value) : laidMetH Tryz.prog Rows.fnExactSortFuncsRow.laid ((laidWorld Tryz.prog [(1, Rows.laid_loop_example_g01543_impl_keywords), (2, Rows.laid_loop_example_g01543_impl_signs), (0, Rows.laid_loop_example_g01543_impl_builtins)] os).forCall (fun _ _ => 0) ⟨#[], args, []⟩).memory :=
  laidMetH_of_parts3 (fuel := 8) (laidMet_of_run' 8 (by kernel_rfl) (by kernel_rfl)) (by kernel_rfl) (by kernel_rfl)
set_option maxRecDepth 100000 in
theorem SortFuncs_lifted (os : Os) (started : os.Started) (H : Type) (enc : TypeId × Value → H) :
    ReturnsInHanded {} Tryz.checked os 3 .any (fun w args => (Rows.fnExactSortFuncsSpec.pre enc Tryz.prog Tryz.f3 Rows.fnExactSortFuncsRow.domain false w args ∧ laidMetH Tryz.prog Rows.fnExactSortFuncsRow.laid w) ∧ sizedMet enc Tryz.prog Tryz.f3 (OpenSpec.ofChange Rows.fnExactSortFuncsSpec) false w args) (Rows.fnExactSortFuncsSpec.post enc Tryz.prog Tryz.f3 false true false false) := by
  refine returns_shaped (C := Tryz.checked) (X := fun w _ => laidMetH Tryz.prog Rows.fnExactSortFuncsRow.laid w) (fun _ _ _ hh h => h.of_heap hh) own started (by kernel_rfl) Tryz.func3
    (ChangeSpec.witness_shaped (enc := enc) (C := Tryz.checked) (os := os) (X := fun w _ => laidMetH Tryz.prog Rows.fnExactSortFuncsRow.laid w) false (laidWorld Tryz.prog [(1, Rows.laid_loop_example_g01543_impl_keywords), (2, Rows.laid_loop_example_g01543_impl_signs), (0, Rows.laid_loop_example_g01543_impl_builtins)] os) #[.slice none 0 0] 8 rfl (World.shaped_of_RefB (by kernel_rfl) (by kernel_rfl)) (by kernel_rfl) (by kernel_rfl) (by kernel_rfl) (SortFuncs_met os _)) ?_
  intro W base args ds gs before hval0 hW hL hSh
  have hval : ∀ (j : Nat) t v, Tryz.f3.params[j]? = some t → args[j]? = some v → Value.okWide Tryz.prog W .any base t v := hval0
  have hW' := hW
  obtain ⟨p, q, hA0, hV, rfl, hfz, hnd⟩ := hW
  have hA : DataW.TrodAll enc Tryz.prog W 0 (fun _ => true) true Tryz.f3.params.toList args.toList ds p := hA0
  rw [Tryz.params3] at hA hval
  obtain ⟨v0, vs0, d0, ds0, p0, q0, hargs, rfl, rfl, h0, r0⟩ := trodAll_cons hA
  obtain ⟨rfl, rfl, rfl⟩ := trodAll_nil r0
  obtain rfl : args = #[v0] := by cases args; simp_all
  cases gs with
  | nil => exact hV.elim
  | cons g0 gs =>
  cases gs with
  | nil => obtain ⟨_, _, _, _, _, _, _, _, _, _, hV, _⟩ := hV; exact hV.elim
  | cons g1 gs =>
  cases gs with
  | nil => obtain ⟨_, _, _, _, _, _, _, _, _, _, hV, _⟩ := hV; obtain ⟨_, _, _, _, _, _, _, _, _, _, hV, _⟩ := hV; exact hV.elim
  | cons g2 gs =>
  cases gs with
  | cons _ _ => obtain ⟨_, _, _, _, _, _, _, _, _, _, hV, _⟩ := hV; obtain ⟨_, _, _, _, _, _, _, _, _, _, hV, _⟩ := hV; obtain ⟨_, _, _, _, _, _, _, _, _, _, hV, _⟩ := hV; exact hV.elim
  | nil =>
  have k0 := h0
  have lt0 : ∀ x ∈ p0, x.block < W.heap.size := by obtain ⟨m, hm⟩ := k0; exact DataW.trod_lt m _ _ _ hm
  have c0 : v0.cells.toList = [v0] := by obtain ⟨_, _, _, rfl⟩ := okWide_slice Tryz.underlying22 (hval 0 22 v0 rfl rfl); rfl
  obtain ⟨n0, x0, t0, s0⟩ := arg_one (μ := impμ []) (m := []) h0 (fun n => by kernel_rfl) c0
  obtain ⟨l0, e0, hl0, hf0⟩ := open_nodes' (n := n0 + 4) t0
  cases e0
  clear hA0 hval0
  refine (law_calls primOk Tryz.func3 rfl rfl (by kernel_rfl) (by kernel_rfl) (globs_ok hL hSh) (tabS_none fun _ => rfl) (args := [.d (.sl false 5 (encNs false l0))]) (gargs := [v0]) (by simp only [simVs]; exact ⟨_, _, rfl, s0, rfl⟩)
    (C.laws_FnExactSortFuncs (((encNs false l0), ()), ()) _ (law_SortFuncs l0 hl0 hf0))).mono fun e W' ⟨he, bel⟩ => ?_
  subst he
  exact ⟨_, rfl, _, _, _, [], _, _, hW', trodAll_mk1 (shut_bool Tryz.underlying4 _), (trodAll_cons_mk (Below.trod laidOut (by kernel_rfl) (of_decide_eq_true (by kernel_rfl)) k0 bel lt0) trodAll_mk0), Below.trodVars laidOut bel (by kernel_rfl) hV, bel.frame _, fun h => by cases h⟩
theorem SortFuncs_row : Rows.FnExactSortFuncsSaid :=
  OpenClaim.holds_of_wide 3 Tryz.f3 rfl rfl rfl rfl rfl rfl rfl ⟨rfl, rfl, rfl, rfl, rfl⟩ rfl rfl rfl rfl rfl (by kernel_rfl) Tryz.func3 (by kernel_rfl)
    (of_decide_eq_true (by kernel_rfl)) (by unfold Func.isWrapper; first | (rw [if_pos (by decide +kernel)]; kernel_rfl) | (rw [if_neg (by decide +kernel)]; exact ⟨rfl, rfl⟩))
    (fun os started H enc _ => SortFuncs_lifted os started H enc)
theorem SortFuncs_holds : Rows.FnExactSortFuncsCardSaid :=
  Claim7.holds_tied_plain_at .later [] [.widerDeep, .data, .widerDeep] true (true, "71ff663811f517c30a3605712413bb99668741b722f6b214d0a3bf7a7cfd4902") false
    SortFuncs_row (fun _ h => by cases h) (by kernel_rfl) (fun _ h => by cases h) fnExactSortFuncs_row_tie rfl ⟨rfl, rfl⟩ (by kernel_rfl) rfl
    (fun f fn hf hfn => by
      obtain rfl : f = 3 := Option.some.inj ((show Tryz.prog.funcNamed "loop.example/g01543/laws.FnExactSortFuncs" = some 3 by kernel_rfl).symm.trans hf) |>.symm
      obtain rfl : fn = Tryz.f3 := (Option.some.inj (Tryz.func3.symm.trans hfn)).symm
      exact ⟨by kernel_rfl, fun j t ht => by
        rw [Tryz.params3] at ht
        have ht2 : t ∈ [22] := by
          have := Array.mem_of_getElem? ht
          simpa using this
        have key : ∀ t ∈ [22], Tryz.prog.wantsStandIn t = false := by
          intro t ht
          simp only [List.mem_cons, List.not_mem_nil, or_false] at ht
          rcases ht with rfl <;> kernel_rfl
        exact key t ht2⟩)
    (by kernel_rfl)
end Go.Proofs.YtpcdaeebbpedoaaGreatDoor
