/-
  THE WALK over ashlarref01.Xor.
-/
import Derived.Test.YtibpmiapcihkfaaOct
import Derived.Test.YtibpmiapcihkfaaBase
namespace Go.Proofs.Ytibpmiapcihkfaa
set_option linter.all false
open Go.RowKit

end Go.Proofs.Ytibpmiapcihkfaa
