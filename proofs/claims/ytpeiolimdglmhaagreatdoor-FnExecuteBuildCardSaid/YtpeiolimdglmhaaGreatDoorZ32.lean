/- Plain facts and walks that the law's proof uses; each says its own conditions. -/
import Derived.Test.YtpeiolimdglmhaaGreatDoorZ18
import Derived.Test.YtpeiolimdglmhaaGreatDoorZ31
import Derived.Test.YtpeiolimdglmhaaGreatDoorZ09
import Derived.Test.YtpeiolimdglmhaaGreatDoorZ17
-- Walks: a list of digits, a number, the row of a word (the reference's way).
namespace Go.Proofs.YtpeiolimdglmhaaGreatDoor
open Go.RowKit
set_option maxRecDepth 100000

end Go.Proofs.YtpeiolimdglmhaaGreatDoor
