/- The kernel's run of the small example's longest input. -/
import Derived.Test.YtpmjbobgglgnaaaGreatDoorE15
namespace Go.Proofs.YtpmjbobgglgnaaaGreatDoor
open Go.RowKit
theorem ofI : isOkV (ofF 295 5) (runE Tryz.prog X2 106 [.str [61, 73, 70, 69, 82, 82, 79, 82, 40, 65, 51, 44, 48, 41, 43, 49]]) = true := by decide +kernel
end Go.Proofs.YtpmjbobgglgnaaaGreatDoor
