/-
  The law's arguments, by their types; the primitives.
-/
import Derived.Test.YtodbelembghegaaReach
import Derived.Test.YtodbelembghegaaShelf
import Derived.Test.YtodbelembghegaaVm4
import Derived.OpenShut
namespace Go.Proofs.Ytodbelembghegaa
set_option linter.unusedVariables false
set_option linter.unusedSimpArgs false
open Go Go.Vm Go.RowKit

theorem open_edge' {n : Nat} {row : Row} (h : tyD Try.prog (n + 3) 68 row) : ∃ x : Ed, row = encE x ∧ x.1.length ≤ maxLen ∧ x.2.length ≤ maxLen := by
  have h := tyD_struct Try.underlying68 h
  obtain ⟨_, _, rfl, h1, h⟩ := tyFs_cons h
  obtain ⟨_, _, rfl, h2, h⟩ := tyFs_cons h
  obtain rfl := tyFs_nil h
  obtain ⟨a, rfl, wa⟩ := tyD_str Try.underlying9 h1
  obtain ⟨b, rfl, wb⟩ := tyD_str Try.underlying9 h2
  exact ⟨(a, b), rfl, wa, wb⟩
set_option maxRecDepth 100000 in
theorem open_edges' {n : Nat} {row : Row} (h : tyD Try.prog (n + 4) 40 row) : ∃ l : List Ed, row = [.sl false 2 (encEs l)] ∧ l.length ≤ maxLen ∧ ∀ x, x ∈ l → x.1.length ≤ maxLen ∧ x.2.length ≤ maxLen := by
  obtain ⟨rows, rfl, hl, hr⟩ := tyD_sl Try.underlying40 h
  obtain ⟨l, rfl, hk⟩ := list_enc (f := encE) (p := fun x : Ed => x.1.length ≤ maxLen ∧ x.2.length ≤ maxLen) (fun r hr' => open_edge' (hr r hr'))
  exact ⟨l, rfl, by simpa using hl, hk⟩
theorem open_str' {n : Nat} {row : Row} (h : tyD Try.prog (n + 1) 9 row) : ∃ s, row = [.str s] ∧ s.length ≤ maxLen := tyD_str Try.underlying9 h
set_option maxRecDepth 100000 in
theorem primOk : PrimOk X0 := by
  intro f p fn args cells rows outs hx hf hb h base U w gargs gcells N1 N2 hG
  have hx' : (bif Nat.beq f 62 then some Prim.slices_Compact else bif Nat.beq f 61 then some Prim.slices_Sort else none) = some p := hx
  cases hq : Nat.beq f 62 with
  | true =>
    rw [hq] at hx'
    cases hx'
    have e := Nat.eq_of_beq_eq_true hq
    subst e
    have hf' : Try.prog.funcs[62]? = some fn := hf
    rw [Try.func62] at hf'
    cases hf'
    refine compactPrim_ok (X := X0) rfl (by rfl) (by kernel_rfl) (fun blk cap zs w h1 h2 h3 => Try.slices_Compact_string blk 0 cap zs w h1 h2 h3) (fun w => Try.slices_Compact_string_empty none 0 w) h base U w gargs gcells N1 N2 hG
  | false =>
    rw [hq] at hx'
    cases hq2 : Nat.beq f 61 with
    | true =>
      rw [hq2] at hx'
      cases hx'
      have e := Nat.eq_of_beq_eq_true hq2
      subst e
      have hf' : Try.prog.funcs[61]? = some fn := hf
      rw [Try.func61] at hf'
      cases hf'
      refine sortPrim_ok (X := X0) rfl (by rfl) (fun blk cap zs w h1 h2 h3 => Try.slices_Sort_string blk 0 cap zs w h1 h2 h3) (fun w => Try.slices_Sort_string_none none 0 w) h base U w gargs gcells N1 N2 hG
    | false => rw [hq2] at hx'; cases hx'
theorem own : ownKnob Try.prog.godebug = none := by kernel_rfl
theorem laidOut : laidOutB Try.prog = true := by kernel_rfl
end Go.Proofs.Ytodbelembghegaa
