/-
  THE WALK over ashlarref01.Xor.
-/
import Derived.Test.YtajnlhalanhicaaOct
import Derived.Test.YtajnlhalanhicaaBase
namespace Go.Proofs.Ytajnlhalanhicaa
set_option linter.all false
set_option maxRecDepth 20000
open Go.RowKit

end Go.Proofs.Ytajnlhalanhicaa
