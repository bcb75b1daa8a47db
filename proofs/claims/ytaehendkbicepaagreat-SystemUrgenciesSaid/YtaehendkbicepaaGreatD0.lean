/- The example of the chapter, reckoned. No condition. -/
import Derived.Test.YtaehendkbicepaaGreatFN
set_option linter.unusedVariables false
namespace Go.Lg
open Go
theorem awake_43 : evIs prog prs 60 f_law43_awake [] (.bool true) = true := by kernel_rfl
end Go.Lg
