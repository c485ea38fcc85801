/-
  The law FnExactReached returns true, for all arguments, and leaves them as they were: no conditions.
-/
import Derived.Test.YtodbelembghegaaRows
import Derived.Test.YtodbelembghegaaReach
import Derived.Test.YtodbelembghegaaROpen
namespace Go.Proofs.Ytodbelembghegaa
set_option linter.unusedVariables false
set_option linter.unusedSimpArgs false
open Go Go.Vm Go.ChangeShapes Go.WideShapes Go.ChangeAt Go.RowKit
open Go.ChangeMaps (open_string shut_string)

set_option maxRecDepth 100000 in
theorem Reached_lifted (os : Os) (started : os.Started) (H : Type) (enc : TypeId × Value → H) :
    ReturnsInHanded {} Try.checked os 4 .any (Rows.fnExactReachedSpec.pre6 enc Try.prog Try.f4 Rows.fnExactReachedRow.domain false) (Rows.fnExactReachedSpec.post enc Try.prog Try.f4 false true false false) := by
  refine returnsInHanded_of_change (C := Try.checked) own started (by kernel_rfl) Try.func4
    (ChangeSpec.witness6 (enc := enc) (C := Try.checked) false ⟨#[], #[.slice none 0 0, .string ByteArray.empty], []⟩ 8 (by kernel_rfl) (by kernel_rfl) (by kernel_rfl) (by kernel_rfl)) ?_
  intro W base args ds gs before hval0 hW hcnd _
  have hval : ∀ (j : Nat) t v, Try.f4.params[j]? = some t → args[j]? = some v → Value.okWide Try.prog W .any base t v := hval0
  have hW' := hW
  obtain ⟨p, q, hA0, hV, rfl, hfz, hnd⟩ := hW
  have hA : DataW.TrodAll enc Try.prog W 0 (fun _ => true) true Try.f4.params.toList args.toList ds p := hA0
  rw [Try.params4] at hA hval
  obtain ⟨v0, vs0, d0, ds0, p0, q0, hargs, rfl, rfl, h0, r0⟩ := trodAll_cons hA
  obtain ⟨v1, vs1, d1, ds1, p1, q1, rfl, rfl, rfl, h1, r1⟩ := trodAll_cons r0
  obtain ⟨rfl, rfl, rfl⟩ := trodAll_nil r1
  obtain rfl : args = #[v0, v1] := by cases args; simp_all
  obtain ⟨rfl, rfl⟩ := trodVars_none hV
  have k0 := h0
  have k1 := h1
  have lt0 : ∀ x ∈ p0, x.block < W.heap.size := by obtain ⟨m, hm⟩ := k0; exact DataW.trod_lt m _ _ _ hm
  have lt1 : ∀ x ∈ p1, x.block < W.heap.size := by obtain ⟨m, hm⟩ := k1; exact DataW.trod_lt m _ _ _ hm
  have c0 : v0.cells.toList = [v0] := by obtain ⟨_, _, _, rfl⟩ := okWide_slice Try.underlying40 (hval 0 40 v0 rfl rfl); rfl
  have c1 : v1.cells.toList = [v1] := by obtain ⟨_, rfl⟩ := okWide_string Try.underlying9 (hval 1 9 v1 rfl rfl); rfl
  obtain ⟨n0, x0, t0, s0⟩ := arg_one (μ := impμ []) (m := []) h0 (fun n => by kernel_rfl) c0
  obtain ⟨n1, x1, t1, s1⟩ := arg_one (μ := impμ []) (m := []) h1 (fun n => by kernel_rfl) c1
  obtain ⟨l0, e0, hl0, hf0⟩ := open_edges' (n := n0 + 4) t0
  obtain ⟨l1, e1, hl1⟩ := open_str' (n := n1 + 7) t1
  cases e0
  cases e1
  clear hA0 hval0
  refine (law_calls primOk Try.func4 rfl rfl (by kernel_rfl) (by kernel_rfl) (globS_none (fun _ => rfl) (fun _ => rfl)) (args := [.d (.sl false 2 (encEs l0)), .d (.str l1)]) (gargs := [v0, v1]) (by simp only [simVs]; exact ⟨_, _, rfl, s0, _, _, rfl, s1, rfl⟩)
    (C.laws_FnExactReached ((encEs l0, l1, ()), ()) _ (law_Reached l0 l1 hl0 hf0))).mono fun e W' ⟨he, bel⟩ => ?_
  subst he
  exact ⟨_, rfl, _, _, _, [], _, [], hW', trodAll_mk1 (shut_bool Try.underlying4 _), (trodAll_cons_mk (Below.trod laidOut (by kernel_rfl) (of_decide_eq_true (by kernel_rfl)) k0 bel lt0) (trodAll_cons_mk (Below.trod laidOut (by kernel_rfl) (of_decide_eq_true (by kernel_rfl)) k1 bel lt1) trodAll_mk0)), rfl, bel.frame _, fun h => by cases h⟩

theorem Reached_holds : Rows.FnExactReachedSaid :=
  OpenClaim.holds_of_wide 4 Try.f4 rfl rfl rfl rfl rfl rfl rfl ⟨rfl, rfl, rfl, rfl, rfl⟩ rfl rfl rfl rfl rfl (by kernel_rfl) Try.func4 (by kernel_rfl)
    (of_decide_eq_true (by kernel_rfl)) (by unfold Func.isWrapper; first | (rw [if_pos (by decide +kernel)]; kernel_rfl) | (rw [if_neg (by decide +kernel)]; exact ⟨rfl, rfl⟩))
    (fun os started H enc _ => Reached_lifted os started H enc)
end Go.Proofs.Ytodbelembghegaa
