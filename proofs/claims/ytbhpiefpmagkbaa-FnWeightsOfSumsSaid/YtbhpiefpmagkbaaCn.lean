
/- Walks: a copy of a slice of integers. -/
import Derived.Test.YtbhpiefpmagkbaaKb
import Derived.Test.YtbhpiefpmagkbaaKd
namespace Go.Proofs.Ytbhpiefpmagkbaa
open Go.RowKit

end Go.Proofs.Ytbhpiefpmagkbaa
