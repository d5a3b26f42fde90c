/- A part of the proof: Shf. -/
import Derived.Shelf.SlGeneric
import Derived.Shelf.SlicesQ.IndexFunc
import Derived.Ground.SlgfProg
import Derived.Test.YtnkkbcofijcpbaaDoorProg
namespace Go.Proofs
open Go.Shelf
end Go.Proofs
