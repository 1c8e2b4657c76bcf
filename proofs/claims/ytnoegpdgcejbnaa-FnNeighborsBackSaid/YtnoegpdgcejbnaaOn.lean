
/- Walks: how many bits of a row are set. -/
import Derived.Test.YtnoegpdgcejbnaaWa
import Derived.Test.YtnoegpdgcejbnaaMathC
namespace Go.Proofs.Ytnoegpdgcejbnaa
open Go.RowKit

end Go.Proofs.Ytnoegpdgcejbnaa
