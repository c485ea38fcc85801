import Derived.Test.YtghbceiigeialaaPForms
import Derived.Test.YtghbceiigeialaaVm4
namespace Go.Proofs.Ytghbceiigeialaa
set_option linter.unusedVariables false
set_option linter.unusedSimpArgs false
set_option linter.unusedSectionVars false
open Go Go.Vm
theorem ble_ok {m n : Nat} (h : m ≤ n) : m.ble n = true := Nat.ble_eq_true_of_le h
theorem some_bind {α β : Type} (a : α) (f : α → Option β) : (some a).bind f = f a := rfl
theorem nat0 : ((0 : Nat) : Int) = 0 := rfl
section
variable {s : List UInt8} (h : s.length ≤ 1048576)
include h
end
section
variable {s : List UInt8} (h : s.length ≤ 1048576)
include h
end
section
variable {s : List UInt8} (h : s.length ≤ 1048576)
include h
end
section
variable {s : List UInt8} (h : s.length ≤ 1048576)
include h
end
end Go.Proofs.Ytghbceiigeialaa
