/- DiskKnown, walked. -/
import Derived.Test.YtbgjahgmkbbgjaaKd3
import Derived.Test.YtbgjahgmkbbgjaaDra
namespace Go.Proofs.Ytbgjahgmkbbgjaa
open Go.RowKit
theorem known_any (w : World) :
    Calls Try.prog 5 #[] w fun e w' => e = .returned (.bool true) ∧ Below w.heap.size w w' :=
  known_of (fun size at_ n lv l w hl => plays_any size at_ n lv l w hl) w
end Go.Proofs.Ytbgjahgmkbbgjaa
