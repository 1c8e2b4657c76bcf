
/- Walks: how many bits of a row are set. -/
import Derived.Test.YtjogfeichnkffaaWa
import Derived.Test.YtjogfeichnkffaaMathC
namespace Go.Proofs.Ytjogfeichnkffaa
open Go.RowKit

end Go.Proofs.Ytjogfeichnkffaa
