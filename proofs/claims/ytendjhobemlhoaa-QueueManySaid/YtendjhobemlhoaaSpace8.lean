/- The contracts of Each and Used as functions of the space's state. -/
import Derived.Test.YtendjhobemlhoaaSpace7
import Derived.Test.YtendjhobemlhoaaSort
import Derived.Test.YtendjhobemlhoaaEach
namespace Go.Proofs.Ytendjhobemlhoaa
open Go Go.RowKit

def isSm : Pst → Bool
  | .small _ _ => true
  | _ => false
def isFi : Pst → Bool
  | .first _ => true
  | _ => false
/-- Pages of blocks that were gone through; larger blocks, too. -/
def k1 (pg : List Pst) (left : Int → Bool) (p : Nat) : Bool := isSm (atP pg p) && !left p
def k2 (pg : List Pst) (left : Int → Bool) (p : Nat) : Bool := isSm (atP pg p) || (isFi (atP pg p) && !left p)

end Go.Proofs.Ytendjhobemlhoaa
