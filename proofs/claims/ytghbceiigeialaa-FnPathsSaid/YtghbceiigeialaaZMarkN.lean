import Derived.Test.YtghbceiigeialaaZMarks
namespace Go.Proofs.Ytghbceiigeialaa
set_option linter.unusedVariables false
set_option linter.unusedSimpArgs false
open Go Go.Vm
def wK : List Nd → Nat
  | [] => 0
  | n :: l => 4 + n.kids.length + wK l
theorem pure_encNs : ∀ l : List Nd, pureRows (encNs true l) = true
  | [] => rfl
  | n :: l => by
    have : encNs true (n :: l) = encN true n :: encNs true l := rfl
    rw [this, pureRows, pure_encNs l]
    simp [encN, pureRow, D.pure]
theorem pure_oneN (l : List Nd) : [[D.sl true 5 (encNs true l)]].all pureRow = true := by simp [pureRow, D.pure, pure_encNs]
end Go.Proofs.Ytghbceiigeialaa
