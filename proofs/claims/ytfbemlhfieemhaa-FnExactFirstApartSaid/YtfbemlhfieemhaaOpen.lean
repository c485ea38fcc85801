/-
  The laws' arguments, by their types.
-/
import Derived.Test.YtfbemlhfieemhaaForms
import Derived.Test.YtfbemlhfieemhaaVm4
import Derived.OpenShut
namespace Go.Proofs.Ytfbemlhfieemhaa
set_option linter.unusedVariables false
set_option linter.unusedSimpArgs false
open Go Go.Vm Go.RowKit

theorem wf_I64 {x : Int} (h : (Lit.int .i64 x).wf = true) : I64 x := bounds_i64 h
theorem open_ints' {n : Nat} {row : Row} (h : tyD Try.prog (n + 2) 31 row) : ∃ k : List Int, row = [.sl false 1 (encI k)] ∧ k.length ≤ maxLen ∧ ∀ x, x ∈ k → I64 x := by
  obtain ⟨rows, rfl, hl, hr⟩ := tyD_sl Try.underlying31 h
  obtain ⟨k, rfl, hk⟩ := list_enc (f := fun x : Int => [D.int .i64 x]) (p := I64) (fun r hr' => by
    obtain ⟨x, rfl, hx⟩ := tyD_int Try.underlying3 (hr r hr')
    exact ⟨x, rfl, wf_I64 hx⟩)
  exact ⟨k, rfl, by simpa using hl, hk⟩
theorem open_node' {n : Nat} {row : Row} (h : tyD Try.prog (n + 3) 52 row) : ∃ x : Nd, row = encN false x ∧ Fit x := by
  have h := tyD_struct Try.underlying52 h
  obtain ⟨_, _, rfl, h1, h⟩ := tyFs_cons h
  obtain ⟨_, _, rfl, h2, h⟩ := tyFs_cons h
  obtain ⟨_, _, rfl, h3, h⟩ := tyFs_cons h
  obtain ⟨_, _, rfl, h4, h⟩ := tyFs_cons h
  obtain ⟨_, _, rfl, h5, h⟩ := tyFs_cons h
  obtain rfl := tyFs_nil h
  obtain ⟨a, rfl, wa⟩ := tyD_int Try.underlying3 h1
  obtain ⟨b, rfl, wb⟩ := tyD_int Try.underlying3 h2
  obtain ⟨c, rfl, wc⟩ := tyD_str Try.underlying9 h3
  obtain ⟨d, rfl, wd⟩ := tyD_str Try.underlying9 h4
  obtain ⟨k, rfl, wk, wk2⟩ := open_ints' h5
  exact ⟨⟨a, b, c, d, k⟩, rfl, ⟨wf_I64 wa, wf_I64 wb, wc, wd, wk, wk2⟩⟩
theorem open_nodes' {n : Nat} {row : Row} (h : tyD Try.prog (n + 4) 22 row) : ∃ l : List Nd, row = [.sl false 5 (encNs false l)] ∧ l.length ≤ maxLen ∧ ∀ x, x ∈ l → Fit x := by
  obtain ⟨rows, rfl, hl, hr⟩ := tyD_sl Try.underlying22 h
  obtain ⟨l, rfl, hk⟩ := list_enc (f := encN false) (p := Fit) (fun r hr' => open_node' (hr r hr'))
  exact ⟨l, rfl, by simpa using hl, hk⟩
theorem open_token' {n : Nat} {row : Row} (h : tyD Try.prog (n + 2) 59 row) : ∃ x : Tk, row = encT x ∧ FitT x := by
  have h := tyD_struct Try.underlying59 h
  obtain ⟨_, _, rfl, h1, h⟩ := tyFs_cons h
  obtain ⟨_, _, rfl, h2, h⟩ := tyFs_cons h
  obtain ⟨_, _, rfl, h3, h⟩ := tyFs_cons h
  obtain rfl := tyFs_nil h
  obtain ⟨a, rfl, wa⟩ := tyD_int Try.underlying3 h1
  obtain ⟨b, rfl, wb⟩ := tyD_str Try.underlying9 h2
  obtain ⟨c, rfl, wc⟩ := tyD_int Try.underlying3 h3
  exact ⟨⟨a, b, c⟩, rfl, ⟨wf_I64 wa, wb, wf_I64 wc⟩⟩
theorem open_tokens' {n : Nat} {row : Row} (h : tyD Try.prog (n + 3) 29 row) : ∃ l : List Tk, row = [.sl false 3 (encTs l)] ∧ l.length ≤ maxLen ∧ ∀ x, x ∈ l → FitT x := by
  obtain ⟨rows, rfl, hl, hr⟩ := tyD_sl Try.underlying29 h
  obtain ⟨l, rfl, hk⟩ := list_enc (f := encT) (p := FitT) (fun r hr' => open_token' (hr r hr'))
  exact ⟨l, rfl, by simpa using hl, hk⟩
theorem open_str' {n : Nat} {row : Row} (h : tyD Try.prog (n + 1) 9 row) : ∃ s, row = [.str s] ∧ s.length ≤ maxLen := tyD_str Try.underlying9 h
theorem open_int' {n : Nat} {row : Row} (h : tyD Try.prog (n + 1) 3 row) : ∃ x, row = [.int .i64 x] ∧ I64 x := by
  obtain ⟨x, rfl, hx⟩ := tyD_int Try.underlying3 h
  exact ⟨x, rfl, wf_I64 hx⟩
theorem primOk : PrimOk X0 := by
  intro f p fn args cells rows outs hx hf hb h base U w gargs gcells N1 N2 hG
  have hx' : (bif Nat.beq f 54 then some Prim.impl_startsOf else none) = some p := hx
  cases hq : Nat.beq f 54 with
  | false => rw [hq] at hx'; cases hx'
  | true =>
    rw [hq] at hx'
    cases hx'
    have e := Nat.eq_of_beq_eq_true hq
    subst e
    exact startsPrim_ok rfl rfl fn args cells rows outs hf h base U w gargs gcells N1 N2 hG
theorem own : ownKnob Try.prog.godebug = none := by kernel_rfl
theorem laidOut : laidOutB Try.prog = true := by kernel_rfl
end Go.Proofs.Ytfbemlhfieemhaa
