/- strings.Compare. (Written by the kit's shelf tools in their plain mode; cut and turned to names.) Conditions: stated with each. -/
import Derived.Shelf.Small.Strs
import Derived.Test.YtlcjgldlblpboaaDoorProg
namespace Go.Proofs
open Go.Shelf Go.RowKit Go.Lib
end Go.Proofs
