/- A part of the proof: Pf4. -/
import Derived.Test.YtnkkbcofijcpbaaDoorPf3
namespace Go.Eng
set_option linter.unusedVariables false
set_option linter.unusedSimpArgs false
end Go.Eng
