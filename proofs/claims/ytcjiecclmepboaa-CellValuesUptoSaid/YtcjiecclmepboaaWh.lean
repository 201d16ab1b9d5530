
/-
  Walks over Copies and Equals of the references.
-/
import Derived.Test.YtcjiecclmepboaaWa
import Derived.Test.YtcjiecclmepboaaRow
import Derived.Test.YtcjiecclmepboaaPc
namespace Go.Proofs.Ytcjiecclmepboaa
open Go.RowKit

end Go.Proofs.Ytcjiecclmepboaa
