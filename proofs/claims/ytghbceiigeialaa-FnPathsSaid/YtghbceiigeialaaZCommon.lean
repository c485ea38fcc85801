import Derived.Test.YtghbceiigeialaaZScan
namespace Go.Proofs.Ytghbceiigeialaa
set_option linter.unusedVariables false
set_option linter.unusedSimpArgs false
open Go Go.Vm
end Go.Proofs.Ytghbceiigeialaa
