/- Proved: BackSums, as its card states it: for every pair of rows, every cotangent of noughts, and every direction that the row of the law lets in, the program answers as the reference does. Conditions: those of the given statement, no others. -/
import Derived.Test.YthmecihkgdaffaaGreatDoorP29
import Derived.Test.YthmecihkgdaffaaGreatDoorP32
namespace Go.Proofs.YthmecihkgdaffaaGreatDoor
theorem back_sums_card : Rows.BackSumsCardSaid := card Go.X.works_den
end Go.Proofs.YthmecihkgdaffaaGreatDoor
