import Derived.Test.YtghbceiigeialaaZTree
import Derived.Test.YtghbceiigeialaaVm4
namespace Go.Proofs.Ytghbceiigeialaa
set_option linter.unusedVariables false
set_option linter.unusedSimpArgs false
open Go Go.Vm
@[simp] theorem pure_encI (l : List Int) : pureRows (encI l) = true := by
  induction l with
  | nil => rfl
  | cons x l ih =>
    simp only [encI, List.map_cons] at ih ⊢
    simp [pureRows, pureRow, D.pure, ih]
@[simp] theorem pure_oneI (l : List Int) : [[D.sl true 1 (encI l)]].all pureRow = true := by
  simp [pureRow, D.pure]
theorem encNs_append (o : Bool) (a b : List Nd) : encNs o (a ++ b) = encNs o a ++ encNs o b := by simp [encNs]
end Go.Proofs.Ytghbceiigeialaa
