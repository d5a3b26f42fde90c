/- A part of the proof: Wk. -/
import Derived.Test.YtnkkbcofijcpbaaDoorCw
namespace Go.Eng
set_option maxRecDepth 100000
theorem works_eq : law03_works = some true := law03_works_le _ (by kernel_rfl)
end Go.Eng
