import Derived.Test.YtghbceiigeialaaZMarkN
namespace Go.Proofs.Ytghbceiigeialaa
set_option linter.unusedVariables false
set_option linter.unusedSimpArgs false
open Go Go.Vm
structure Ok (l : List Nd) : Prop where
  len : l.length ≤ 1048576
  kids : ∀ n, n ∈ l → n.kids.length ≤ 1048576 ∧ ∀ e, e ∈ n.kids → I64 e
  sm : ∀ n, n ∈ l → Small n
  w : wK l ≤ 10000000
theorem Ok.k {l : List Nd} (h : Ok l) : ∀ n, n ∈ l → n.kids.length ≤ 1048576 := fun n hn => by have := (h.kids n hn).1; omega
end Go.Proofs.Ytghbceiigeialaa
