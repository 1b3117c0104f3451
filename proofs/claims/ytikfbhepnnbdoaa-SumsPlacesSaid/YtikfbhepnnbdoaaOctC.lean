/-
  THE WALKS over package octets, the last ones: bits looked for and counted.
-/
import Derived.Test.YtikfbhepnnbdoaaOctB
namespace Go.Proofs.Ytikfbhepnnbdoaa
set_option linter.all false
open Go.RowKit

end Go.Proofs.Ytikfbhepnnbdoaa
