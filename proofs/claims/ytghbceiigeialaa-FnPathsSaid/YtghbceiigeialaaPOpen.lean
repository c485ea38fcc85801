import Derived.Test.YtghbceiigeialaaPForms
import Derived.Test.YtghbceiigeialaaVm5
import Derived.Test.YtghbceiigeialaaVm4
import Derived.OpenShut
namespace Go.Proofs.Ytghbceiigeialaa
set_option linter.unusedVariables false
set_option linter.unusedSimpArgs false
open Go Go.Vm Go.RowKit
theorem open_code' {n : Nat} {row : Row} (h : tyD Try.prog (n + 2) 22 row) : ∃ c : List UInt8, row = [.sl false 1 (c.map byteRow)] ∧ c.length ≤ maxLen := by
  obtain ⟨rows, rfl, hl, hr⟩ := tyD_sl Try.underlying22 h
  obtain ⟨c, rfl, _⟩ := list_enc (f := byteRow) (p := fun _ => True) (fun r hr' => by
    obtain ⟨x, rfl, hx⟩ := tyD_int Try.underlying5 (hr r hr')
    have h' : 0 ≤ x ∧ x ≤ 255 := by
      simp [Lit.wf, IntKind.min, IntKind.max, IntKind.signed, IntKind.bits] at hx
      omega
    refine ⟨UInt8.ofNat x.toNat, ?_, trivial⟩
    rw [byteRow, UInt8.toNat_ofNat']
    congr 2
    omega)
  exact ⟨c, rfl, by simpa using hl⟩
theorem primOk : PrimOk X0 := by
  intro f p fn args cells rows outs hx hf hb h base U w gargs gcells N1 N2 hG
  have hx' : (bif Nat.beq f 35 then some Prim.impl_startsOf else none) = some p := hx
  cases hq : Nat.beq f 35 with
  | false => rw [hq] at hx'; cases hx'
  | true =>
    rw [hq] at hx'
    cases hx'
    have e := Nat.eq_of_beq_eq_true hq
    subst e
    exact startsPrim_ok rfl rfl fn args cells rows outs hf h base U w gargs gcells N1 N2 hG
theorem own : ownKnob Try.prog.godebug = none := by kernel_rfl
theorem laidOut : laidOutB Try.prog = true := by kernel_rfl
end Go.Proofs.Ytghbceiigeialaa
