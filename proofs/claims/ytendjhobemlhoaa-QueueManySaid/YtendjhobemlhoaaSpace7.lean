/- The contract of Free as a function of the space's state. -/
import Derived.Test.YtendjhobemlhoaaSpace6
namespace Go.Proofs.Ytendjhobemlhoaa
open Go Go.RowKit

end Go.Proofs.Ytendjhobemlhoaa
