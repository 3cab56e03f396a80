/- The chapter's examples: arrived evaluates to true. Conditions: none. -/
import Derived.Test.YtdlofkamkiojlaaDoorXGi
import Derived.WalkKit
namespace Go.Abs.Tr
open Go Go.Abs
set_option maxRecDepth 100000
theorem arrived_true : s23 4000 = some true := by kernel_rfl
end Go.Abs.Tr
