/- The document's constants are the program's. Conditions: none. -/
import Derived.Test.YtllnocffmlagjaaR3
import Derived.Test.YtllnocffmlagjaaH2
set_option linter.unusedVariables false
namespace Go.Proofs.Ytllnocffmlagjaa
open Go.RowKit
theorem frac3 : ∀ i, i < 64 → UInt32.ofNat (fracL (prL.getD i 0) 3 36 0) = kc.getD i 0 := by decide +kernel
theorem frac2 : ∀ i, i < 8 → UInt32.ofNat (fracL (prL.getD i 0) 2 36 0) = hc.getD i 0 := by decide +kernel
end Go.Proofs.Ytllnocffmlagjaa
