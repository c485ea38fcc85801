import Derived.Test.YtpcdaeebbpedoaaGreatDoorZTree
namespace Go.Proofs.YtpcdaeebbpedoaaGreatDoor
set_option linter.unusedVariables false
set_option linter.unusedSimpArgs false
open Go Go.Vm
section
variable (l : List Nd) (o : Bool) (hl : l.length ≤ 1048576) (hk : ∀ n, n ∈ l → n.kids.length ≤ 1048576) (hsm : ∀ n, n ∈ l → Small n)
include hl hk hsm
noncomputable def programOk (l : List Nd) : Bool := treeOk l && (match l.getLast? with | some n => n.kind == 45 | none => false)
theorem spec_ProgramOk_ok : M.spec_ProgramOk (encNs o l) = some (programOk l) := by
  simp only [M.spec_ProgramOk, M.spec_ProgramOk_C, spec_TreeOk_ok l o hl hk hsm, some_bind, programOk, encNs_length]
  cases ht : treeOk l with
  | false => rfl
  | true =>
    obtain ⟨n, h1, h2⟩ := treeOk_last l o hl hk hsm ht
    rw [cond_true, h2, some_bind, h1, Bool.true_and]
    rfl
theorem impl_ProgramOk_ok : M.impl_ProgramOk (encNs o l) = some (programOk l) := by
  simp only [M.impl_ProgramOk, M.impl_ProgramOk_C, impl_TreeOk_ok l o hl hk hsm, some_bind, programOk, encNs_length]
  cases ht : treeOk l with
  | false => rfl
  | true =>
    obtain ⟨n, h1, h2⟩ := treeOk_last l o hl hk hsm ht
    rw [cond_true, h2, some_bind, h1, Bool.true_and]
    rfl
end
end Go.Proofs.YtpcdaeebbpedoaaGreatDoor
