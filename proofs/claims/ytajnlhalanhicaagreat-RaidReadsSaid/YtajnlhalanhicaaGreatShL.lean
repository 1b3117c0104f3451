/-
 THE WALK over the shelf's lives.
-/
import Derived.Test.YtajnlhalanhicaaGreatShJ
namespace Go.Proofs.YtajnlhalanhicaaGreat
set_option linter.all false
set_option maxRecDepth 20000
open Go.RowKit
end Go.Proofs.YtajnlhalanhicaaGreat
