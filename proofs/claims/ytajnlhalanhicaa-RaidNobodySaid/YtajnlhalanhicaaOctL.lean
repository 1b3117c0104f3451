/-
  THE WALK over ashlarlaw01.lives: it answers true.
-/
import Derived.Test.YtajnlhalanhicaaOct
import Derived.Lib.SlBytesConst
namespace Go.Proofs.Ytajnlhalanhicaa
set_option linter.all false
set_option maxRecDepth 20000
open Go.RowKit

end Go.Proofs.Ytajnlhalanhicaa
