/-
 THE WALK over the shelf's lives.
-/
import Derived.Test.YtajnlhalanhicaaShJ
namespace Go.Proofs.Ytajnlhalanhicaa
set_option linter.all false
set_option maxRecDepth 20000
open Go.RowKit
end Go.Proofs.Ytajnlhalanhicaa
