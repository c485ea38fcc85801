/-
  The laws' arguments, by their types; the primitives; the variables.
-/
import Derived.Test.YtodbelembghegaaDoorTForms
import Derived.Test.YtodbelembghegaaDoorVm4
import Derived.OpenShut
namespace Go.Proofs.YtodbelembghegaaDoor
set_option linter.unusedVariables false
set_option linter.unusedSimpArgs false
open Go Go.Vm Go.RowKit

theorem wf_I64 {x : Int} (h : (Lit.int .i64 x).wf = true) : I64 x := bounds_i64 h
theorem open_str' {n : Nat} {row : Row} (h : tyD Tryd.prog (n + 1) 9 row) : ∃ s, row = [.str s] ∧ s.length ≤ maxLen := tyD_str Tryd.underlying9 h
theorem open_int' {n : Nat} {row : Row} (h : tyD Tryd.prog (n + 1) 3 row) : ∃ x, row = [.int .i64 x] ∧ I64 x := by
  obtain ⟨x, rfl, hx⟩ := tyD_int Tryd.underlying3 h
  exact ⟨x, rfl, wf_I64 hx⟩
theorem primOk : PrimOk X0 := by
  intro f p fn args cells rows outs hx hf hb h base U w gargs gcells N1 N2 hG
  have hx' : (bif Nat.beq f 15 then some Prim.strings_TrimRight else bif Nat.beq f 22 then some Prim.strings_Split else bif Nat.beq f 104 then some Prim.strings_Contains else none) = some p := hx
  cases hq : Nat.beq f 15 with
  | true =>
    rw [hq] at hx'
    cases hx'
    have e := Nat.eq_of_beq_eq_true hq
    subst e
    exact trimPrim_ok rfl (by decide) fn args cells rows outs hf h base U w gargs gcells N1 N2 hG
  | false =>
  rw [hq, cond_false] at hx'
  cases hq : Nat.beq f 22 with
  | true =>
    rw [hq] at hx'
    cases hx'
    have e := Nat.eq_of_beq_eq_true hq
    subst e
    exact splitPrim_ok rfl (by decide) rfl fn args cells rows outs hf h base U w gargs gcells N1 N2 hG
  | false =>
  rw [hq, cond_false] at hx'
  cases hq : Nat.beq f 104 with
  | true =>
    rw [hq] at hx'
    cases hx'
    have e := Nat.eq_of_beq_eq_true hq
    subst e
    exact containsPrim_ok rfl (by decide) fn args cells rows outs hf h base U w gargs gcells N1 N2 hG
  | false => rw [hq] at hx'; cases hx'
theorem own : ownKnob Tryd.prog.godebug = none := by kernel_rfl
theorem laidOut : laidOutB Tryd.prog = true := by kernel_rfl
theorem globs_ok {W : World} {l : List (String × DataW Unit)} (hL : laidMetH Tryd.prog l W) (hS : W.ShapedOpen Tryd.prog) : globS X0 (full W) := by
  refine ⟨fun g row h => ?_, fun g h => ?_⟩
  · cases h
  · have h' : (bif Nat.beq g 0 then true else false) = true := h
    cases hq : Nat.beq g 0 with
    | false => rw [hq] at h'; cases h'
    | true =>
      have e := Nat.eq_of_beq_eq_true hq
      subst e
      exact Go.Proofs.cell_of_shapedOpen_int (zero := #[.int .i64 0]) hS (of_decide_eq_true (by kernel_rfl)) (by kernel_rfl) rfl (by kernel_rfl) (by kernel_rfl) Tryd.underlying3
end Go.Proofs.YtodbelembghegaaDoor
