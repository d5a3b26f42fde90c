/- A part of the proof: Hs. -/
import Derived.Test.YtnkkbcofijcpbaaDoorLa1
import Derived.Test.YtnkkbcofijcpbaaDoorPf2
import Derived.Test.YtnkkbcofijcpbaaDoorShf
import Derived.Test.YtnkkbcofijcpbaaDoorDvV
namespace Go.Eng
open Go.Proofs Go.RowKit Go.Shelf
set_option linter.unusedVariables false
set_option linter.unusedSimpArgs false
end Go.Eng
