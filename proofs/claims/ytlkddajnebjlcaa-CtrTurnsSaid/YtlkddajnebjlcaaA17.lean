/- What the functions of layer 3 (aes) give: the document's box. -/
import Derived.Test.YtlkddajnebjlcaaA16
set_option linter.unusedVariables false
set_option maxRecDepth 1000000
namespace Go.Proofs.Ytlkddajnebjlcaa.Aes
open Go Vse Go.Proofs


end Go.Proofs.Ytlkddajnebjlcaa.Aes
