/- Plain: numbers in ascending order. -/
import Derived.Test.YtkplffkchanipaaGreatDoorBase
namespace Go.Proofs.YtkplffkchanipaaGreatDoor
open Go.RowKit

/-- Numbers, rising. -/
def rising (l : List Int) : List Int := l.mergeSort fun x y => decide (x ≤ y)
theorem rising_len (l : List Int) : (rising l).length = l.length := List.length_mergeSort _

end Go.Proofs.YtkplffkchanipaaGreatDoor
