/-
 THE WALK of lives of layer 4.
-/
import Derived.Test.YtajnlhalanhicaaGreatSupN
import Derived.Test.YtajnlhalanhicaaGreatSupE
import Derived.Test.YtajnlhalanhicaaGreatBase
namespace Go.Proofs.YtajnlhalanhicaaGreat
set_option linter.all false
set_option maxRecDepth 20000
open Go.RowKit
end Go.Proofs.YtajnlhalanhicaaGreat
